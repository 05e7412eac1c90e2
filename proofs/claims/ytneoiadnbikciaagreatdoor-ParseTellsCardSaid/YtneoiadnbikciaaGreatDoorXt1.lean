/-
  Texts of this proof, one behind the other (part 1).
-/
import Derived.Test.YtneoiadnbikciaaGreatDoorXp8
set_option linter.unusedVariables false
set_option linter.unusedSimpArgs false
set_option maxRecDepth 100000
set_option maxHeartbeats 4000000
open Go.Proofs.Tryz renaming prog → Y00
open Go.Abs.Wk renaming int → Y01,noref → Y02,ptr → Y05,slice → Y0c
open Go.Abs.FgL renaming mk → Y03,mk0 → Y08
open Nat renaming le_refl → Y04,zero_le → Y06,beq → Y0f,eq_of_beq_eq_true → Y0y
open And renaming intro → Y07
open List renaming take_succ_cons → Y09,take_length → Y0a,take_zero → Y0e,drop_eq_getElem_cons → Y0g,append_nil → Y0h,getElem?_eq_getElem → Y0i,length_drop → Y0j,length_append → Y0l,getElem_cons_zero → Y0m,getElem_cons_succ → Y0n,length_take → Y0o,drop_zero → Y0p,getElem_mem → Y0r,cons_append → Y0s,drop_drop → Y0u,length_cons → Y0v,append_assoc → Y0w,getElem?_map → Y0x,drop_eq_nil_of_le → Y0z,length_pos_iff → Y0A,mem_of_mem_take → Y0B,nil_append → Y0C,take_succ_eq_append_getElem → Y0D
open Bool renaming and_eq_true → Y0b,true_and → Y0d,and_true → Y0q,and_false → Y0t
open Go.Abs.BodyGe renaming pre → Y0k
section
namespace Go.Abs
open Go.RowKit
noncomputable def onTuple{β : Type}(v:AV):(List AV -> β) -> β -> β :=
 AV.rec (motive_1:=λ_=>(List AV -> β) -> β -> β) (motive_2:=λ_=>Unit) (λ_ _ d=>d) (λ_ _ _ d=>d) (λ_ _ d=>d) (λ_ d=>d) (λ_ _ _ d=>d) (λ_ _ _ d=>d) (λ_ d=>d)
  (λ_ _ _ _ _ _ d=>d) (λ_ _ _ _ _ d=>d) (λ_ d=>d) (λ_ _ d=>d) (λ_ _ _ _ _ _ d=>d) (λ_ d=>d) (λ_ _ _ _ d=>d) (λ_ d=>d)
  (λ_ _ _ d=>d) (λvs _ f _=>f vs) () (λ_ _ _ _=>()) v
noncomputable def onAgg{β : Type}(v:AV):(List AV -> β) -> β -> β :=
 AV.rec (motive_1:=λ_=>(List AV -> β) -> β -> β) (motive_2:=λ_=>Unit) (λ_ _ d=>d) (λ_ _ _ d=>d) (λ_ _ d=>d) (λ_ d=>d) (λ_ _ _ d=>d) (λ_ _ _ d=>d) (λ_ d=>d)
  (λ_ _ _ _ _ _ d=>d) (λ_ _ _ _ _ d=>d) (λ_ d=>d) (λ_ _ d=>d) (λ_ _ _ _ _ _ d=>d) (λ_ d=>d) (λ_ _ _ _ d=>d) (λ_ d=>d)
  (λvs _ f _=>f vs) (λ_ _ _ d=>d) () (λ_ _ _ _=>()) v
end Go.Abs
end
section
namespace Go.Abs
open Go.RowKit
section ops
variable {P:Program} {gl:Z0g} {d n:Nat} {o:Oper}
noncomputable def oneR(v:AV):Bool:=onAgg v (λ_=>false) (onTuple v (λ_=>false) true)
end ops
end Go.Abs
end
section
namespace Go.Abs
open Go.RowKit Go.ChangeShapes Go.WideShapes Go.ChangeAt
section opens
variable {P:Program}
theorem opens_int{t:TypeId}{k:IntKind}(ht:P.underlying t=some (.int k)):Zpg P t λus=>∃n,us=[.int k n]/\(Lit.int k n).wf=true:=by
 intro H enc W fuel cs x h
 obtain⟨n,rfl,_,hw⟩:=DataW.trod_int ht h
 exact⟨_,⟨n,rfl,hw⟩,by simp[LR,VR]⟩
end opens
end Go.Abs
end
section
namespace Go.Abs
open Go.RowKit Go.ChangeShapes Go.WideShapes Go.ChangeAt
section opens
variable {P:Program}
theorem opensV_int{t:TypeId}{k:IntKind}(ht:P.underlying t=some (.int k)):Zlf P t λu=>∃n,u = .int k n/\(Lit.int k n).wf=true:=by
 intro H enc W r b v d p hv ⟨fuel,h⟩
 obtain⟨n,rfl⟩:=okWide_int ht hv
 obtain⟨us,⟨n',rfl,hw⟩,hl⟩:=opens_int ht H enc W fuel _ _ h
 exact⟨_,⟨n',rfl,hw⟩,ZnA (by simpa[Value.cells]using hl)⟩
end opens
end Go.Abs
end
section
namespace Go.Abs
open Go.RowKit
theorem tk1_get{cs:List AV}{off:Nat}{c:AV}(h:cs[off]? = some c):tk 1 (cs.drop off)=some [c]:=by
 obtain⟨hl,rfl⟩:=List.getElem?_eq_some_iff.1 h
 rw[Y0g hl];simp[tk]
end Go.Abs
end
namespace Go.Proofs.YtneoiadnbikciaaGreatDoor.lex
open Go.Abs Go.RowKit
section
variable {gl:Z0g}
theorem spanN_at{p:Int->Bool}{s:List UInt8}{e:Nat}(h:e<s.length):Z0j p (s.drop e)=if p s[e].toNat then Z0j p (s.drop (e+1))+1 else 0:=by
 rw[Y0g h]
 cases hp:p s[e].toNat with
 |true=>rw[Z13 _ hp];rfl
 |false=>rw[Z0Y _ hp];rfl
theorem spanN_end{p:Int->Bool}{s:List UInt8}{e:Nat}(h:¬e<s.length):Z0j p (s.drop e)=0:=by
 rw[Y0z (by omega)];rfl
section
attribute [local irreducible] Z0d
end
theorem wordN_at0{s:List UInt8}(h:0<s.length):Z0d s=if Z7m s[0].toNat then Z0j Zcq s else 0:=by
 cases s with
 |nil=>simp at h
 |cons c t=>rfl
def wInv(s:List UInt8)(i:Nat):Prop:=i<=s.length/\(i=0\/(0<i/\Z0d s=Z0j Zcq s/\Z0j Zcq s=i+Z0j Zcq (s.drop i)))
theorem wInv_step{s:List UInt8}{i:Nat}(h:wInv s i)(hlt:i<s.length)(h2:Z7m s[i].toNat=true\/(i≠0/\Zcq s[i].toNat=true)):wInv s (i+1):=by
 have hat:=spanN_at (p:=Zcq) hlt
 have hw:Zcq s[i].toNat=true:=by rcases h2 with h2|h2;simp[Zcq,h2];exact h2.2
 rw[hw,if_pos rfl]at hat
 refine⟨hlt,.inr ⟨by omega,?_,?_⟩⟩
 · rcases h.2 with h0|h0
   · subst h0
     have:Z7m s[0].toNat=true:=by rcases h2 with h2|h2;exact h2;exact absurd rfl h2.1
     rw[wordN_at0 (by omega),this,if_pos rfl]
   ·exact h0.2.1
 · rcases h.2 with h0|h0
   ·subst h0;rw[Y0p]at hat;omega
   ·omega
theorem wInv_bad{s:List UInt8}{i:Nat}(h:wInv s i)(hlt:i<s.length)(h1:Z7m s[i].toNat=false)(h2:i=0\/Zcq s[i].toNat=false):Z91 s = .tuple [.int .i64 0,.bool false]:=by
 unfold Z91
 rw[if_neg]
 rintro⟨_,h4⟩
 rcases h.2 with h0|h0
 · subst h0
   rw[wordN_at0 (by omega),h1]at h4
   simp at h4;omega
 · have hat:=spanN_at (p:=Zcq) hlt
   rcases h2 with h2|h2
   ·omega
   ·rw[h2,if_neg (by decide)]at hat;omega
theorem wInv_end{s:List UInt8}(h:wInv s s.length)(h0:s≠[]):Z91 s = .tuple [.int .i64 (if keysL.contains s then 2 else 1),.bool true]:=by
 have hl:0<s.length:=Y0A.2 h0
 unfold Z91
 rw[if_pos]
 refine⟨h0,?_⟩
 rcases h.2 with h1|h1
 ·omega
 ·have:=spanN_end (p:=Zcq) (s:=s) (e:=s.length) (by omega);omega
theorem wordD_ok(s:List UInt8)(hs:s.length<=9223372036854775807):ValOK Y00 gl 73 [.str s] (Z91 s):=by
 refine Z0B follows Z06 Zfa Tryz.func73 rfl ?_
 conv=>whnf
 repeat' ((conv=>whnf);first|refine stp ?_|with_reducible apply Z01<;>intro h)
 conv=>whnf
 refine⟨Nat,wInv s,(λi=>[(0,.str s),(4,.int .i64 i)]),(λ_=>[]),(λi=>s.length-i),⟨0,⟨Y06 _,.inl rfl⟩,Y08 rfl ⟨Y02 rfl,Y01 rfl,trivial⟩⟩,?_⟩
 intro i hI
 have hi:=hI.1
 by_cases hlt:i<s.length
 · have e1:decide ((i:Int)<(s.length:Int))=true:=by simpa using hlt
   have hx:s[i]? = some s[i]:=by simp[hlt]
   have u1:=Z6r s[i] 95 (by decide)
   cases hl:Z7m s[i].toNat with
   |true =>
    repeat' ((conv=>whnf);first|with_reducible refine ixS _ rfl hx ?_|refine stp ?_|with_reducible apply Z01<;>intro h)
    conv=>whnf
    exact⟨i+1,wInv_step hI hlt (.inl hl),by show s.length-(i+1)<s.length-i;omega,Y08 rfl ⟨Y02 rfl,Y01 rfl,trivial⟩⟩
   |false =>
    by_cases h0:i=0
    · have e2:((i:Int)==0)=true:=by simp[h0]
      repeat' ((conv=>whnf);first|with_reducible refine ixS _ rfl hx ?_|refine stp ?_|with_reducible apply Z01<;>intro h)
      exact (wInv_bad hI hlt hl (.inl h0)).symm
    · have e2:((i:Int)==0)=false:=by simp[h0]
      cases hw:Zcq s[i].toNat with
      |true =>
       repeat' ((conv=>whnf);first|with_reducible refine ixS _ rfl hx ?_|refine stp ?_|with_reducible apply Z01<;>intro h)
       all_goals (first|(exfalso;simp_all[Zcq];done)|skip)
       all_goals (conv=>whnf)
       all_goals exact⟨i+1,wInv_step hI hlt (.inr ⟨h0,hw⟩),by show s.length-(i+1)<s.length-i;omega,Y08 rfl ⟨Y02 rfl,Y01 rfl,trivial⟩⟩
      |false =>
       repeat' ((conv=>whnf);first|with_reducible refine ixS _ rfl hx ?_|refine stp ?_|with_reducible apply Z01<;>intro h)
       all_goals (first|(exfalso;simp_all[Zcq];done)|skip)
       all_goals exact (wInv_bad hI hlt hl (.inr hw)).symm
 · have e1:decide ((i:Int)<(s.length:Int))=false:=by simpa using hlt
   have hi2:i=s.length:=by omega
   subst hi2
   by_cases h0:s=[]
   · have e2:(s==[])=true:=by simpa using h0
     repeat' ((conv=>whnf);first|refine stp ?_|with_reducible apply Z01<;>intro h)
     unfold Z91;rw[if_neg (λh=>h.1 h0)]
   · have e2:(s==[])=false:=by simpa using h0
     repeat' ((conv=>whnf);first|refine stp ?_|with_reducible apply Z01<;>intro h)
     rw[wInv_end hI h0]
end
section
variable {gl:Z0g}
instance:Inhabited Ex:=⟨.mk 0 0 [] []⟩
theorem deepL_take:∀(l:List Ex)(i:Nat)(h:i<l.length),deepL (l.take (i+1))=max (deepL (l.take i)) (ZmB l[i])
 |e::l,0,h=>by simp only[Y09,Y0e,deepL,Y0m];omega
 |e::l,i+1,h=>by
  have:=deepL_take l i (by simpa using h)
  simp only[Y09,deepL,Y0n]at this⊢;omega
mutual
theorem deepE_size:∀e:Ex,ZmB e<=Z1x e
 | .mk _ _ _ k=>by have:=deepL_size k;simp only[ZmB,Z1x];omega
theorem deepL_size:∀l:List Ex,deepL l<=sizeL l
 |[]=>Y04 _
 |e::l=>by have:=deepE_size e;have:=deepL_size l;simp only[deepL,sizeL];omega
end
theorem deepR_ok:∀(n:Nat)(e:Ex),Z1x e<=n->Z1x e<=1048576->ValOK Y00 gl 96 [.agg e.cells] (.int .i64 (ZmB e))
 |0,e,h,_=>by have:=Z8c e;omega
 |n+1,.mk op num name kids,h,hb=>by
  simp only[Z1x]at h hb
  simp only[ZmB]
  obtain⟨O,hO,q,-⟩:=fams (P:=Y00) (gl:=gl) [Zqe (g:=96) (by kernel_rfl) (λk=>.int .i64 (ZmB k)) kids λk hk=>deepR_ok n k (by have:=Z3n _ _ hk;omega) (by have:=Z3n _ _ hk;omega)] rfl
  have hlen:=Z8b kids
  have hds:=deepL_size kids
  simp only[Ex.cells]
  refine Z0B follows Z06 hO Tryz.func96 rfl ?_
  repeat' ((conv=>whnf);first|refine stp ?_|with_reducible apply Z01<;>intro h)
  conv=>whnf
  refine⟨Nat,(λi=>i<=kids.length),(λi=>[(1,.ptr 0 0),(3,.int .i64 (deepL (kids.take i))),(4,.int .i64 i)]),(λ_=>[⟨true,0,0,.cells [.int .i64 op,.int .i64 num,.str name,.rs kids.length 4 (exC kids)] 47⟩]),(λi=>kids.length-i),⟨0,Y06 _,Y03 [0] rfl ?_ ⟨hbp,trivial⟩ rfl⟩,?_⟩
  ·simp only[Y0e,deepL];exact wks
  intro i hi
  dsimp only
  by_cases hlt:i<kids.length
  · have e1:decide ((i:Int)<(kids.length:Int))=true:=by simpa using hlt
    have hx:=ex4 kids i hlt
    have hs:=deepL_take kids i hlt
    have q1:∀H,Z05 Y00 O H 96 [.agg kids[i].cells]=some (.int .i64 (ZmB kids[i]),H):=q _ (Z1g hlt)
    generalize kids[i]=k at *
    repeat' ((conv=>whnf);first|refine exI hx ?_|refine exI (q1 _) ?_|(with_reducible refine ixJ i rfl ?_ ?_;focus omega)|refine stp ?_|with_reducible apply Z01<;>intro h)
    conv=>whnf
    refine⟨i+1,hlt,by show kids.length-(i+1)<kids.length-i;omega,Y03 [0] rfl ?_ ⟨hbp,trivial⟩ rfl⟩
    refine Y07 (Y05 rfl rfl) ?_
    refine Y07 (Y01 ?_) ?_
    ·rw[hs];split<;>omega
    exact wks
  · have e1:decide ((i:Int)<(kids.length:Int))=false:=by simpa using hlt
    have hi2:i=kids.length:=by have:=hi;omega
    subst hi2
    rw[Y0a]
    repeat' ((conv=>whnf);first|refine stp ?_|with_reducible apply Z01<;>intro h)
    rfl
end
section
variable {gl:Z0g}
theorem wordRef_ok(s:List UInt8)(hs:s.length<=9223372036854775807):ValOK Y00 gl 33 [.str s] (.bool (Z38 s)):=by
 obtain⟨k,w,h1,h2,h3⟩:=Zli s
 have hO:=ZfA (P:=Y00) (gl:=gl) (l:=[(73,[.str s],Z91 s)]) ⟨rfl,wordD_ok s hs,trivial⟩
 have q:∀H,Z05 Y00 (Zok [(73,[.str s],Z91 s)]) H 73 [.str s]=some (Z91 s,H):=λH=>Zpa (by kernel_rfl) ZfO
 rw[h1]at q hO
 rw[<- h2]
 refine Z0B follows Z06 hO Tryz.func33 rfl ?_
 repeat' ((conv=>whnf);first|refine exI (q _) ?_|refine stp ?_|with_reducible apply Z01<;>intro h)
 all_goals (try (simp_all[Z0Z];done))
end
section
variable {gl:Z0g}
theorem kids_ok(op:Int):ValOK Y00 gl 107 [.int .i64 op] (.int .i64 (Zag op)):=by
 refine Z0B follows Z06 Z0u Tryz.func107 rfl ?_
 repeat' ((conv=>whnf);first|refine stp ?_|with_reducible apply Z01<;>intro h)
 all_goals (show AV.int _ _=AV.int _ _;congr 1;unfold Zag;simp only[beq_iff_eq,decide_eq_true_eq,beq_eq_false_iff_ne,decide_eq_false_iff_not,ge_iff_le,Int.not_le]at *)
 all_goals (repeat' split)
 all_goals omega
theorem rightL_get:∀{l:List Ex}{i:Nat}(h:i<l.length),Z5R l[i]=false->rightL l=false
 |e::l,0,h,h2=>by simp only[Y0m]at h2;simp only[rightL,h2,Bool.false_and]
 |e::l,i+1,h,h2=>by simp only[Y0n]at h2;simp only[rightL,rightL_get (l:=l) (by simpa using h) h2,Y0t]
theorem rightL_take:∀(l:List Ex)(i:Nat)(h:i<l.length),rightL (l.take (i+1))=(rightL (l.take i)&&Z5R l[i])
 |e::l,0,h=>by simp only[Y09,Y0e,rightL,Y0m,Y0q,Y0d]
 |e::l,i+1,h=>by
  have:=rightL_take l i (by simpa using h)
  simp only[Y09,rightL,Y0n]at this⊢;rw[this,Bool.and_assoc]
theorem right_ok:∀(n:Nat)(e:Ex),Z1x e<=n->okE e->ValOK Y00 gl 75 [.agg e.cells] (.bool (Z5R e))
 |0,e,h,_=>by have:=Z8c e;omega
 |n+1,.mk op num name kids,h,hok=>by
  simp only[Z1x]at h
  obtain⟨⟨hn1,hn2⟩,hok2⟩:=Z7K hok
  simp only[Ex.name,Ex.kids]at hn1 hn2 hok2
  obtain⟨O,hO,p1,p2,p3,-⟩:=fams (P:=Y00) (gl:=gl) [{ I:=Unit,f:=107,G:=λ_=>True,A:=λ_=>[.int .i64 op],R:=λ_=>.int .i64 (Zag op),body:=by kernel_rfl,inj:=λ_ _ _ _ _=>rfl,ok:=λ_ _=>⟨rfl,kids_ok _⟩ },
   { I:=Unit,f:=33,G:=λ_=>True,A:=λ_=>[.str name],R:=λ_=>.bool (Z38 name),body:=by kernel_rfl,inj:=λ_ _ _ _ _=>rfl,ok:=λ_ _=>⟨rfl,wordRef_ok _ hn1⟩ },
   Zqe (g:=75) (by kernel_rfl) (λk=>.bool (Z5R k)) kids λk hk=>right_ok n k (by have:=Z3n _ _ hk;omega) (Z8n hok2 _ hk)] rfl
  have q1:∀H,Z05 Y00 O H 107 [.int .i64 op]=some (.int .i64 (Zag op),H):=p1 () trivial
  have q2:∀H,Z05 Y00 O H 33 [.str name]=some (.bool (Z38 name),H):=p2 () trivial
  have q3:∀i (h:i<kids.length) H,Z05 Y00 O H 75 [.agg kids[i].cells]=some (.bool (Z5R kids[i]),H):=λi h=>p3 _ (Z1g h)
  clear p1 p2 p3
  simp only[Ex.cells]
  refine Z0B follows Z06 hO Tryz.func75 rfl ?_
  have hop:(op==2)=true\/(op==2)=false:=by cases (op==2)<;>simp
  obtain⟨w,hw⟩:∃w,Z38 name=w:=⟨_,rfl⟩
  rw[hw]at q2
  cases w<;>rcases hop with hop|hop
  all_goals (repeat' ((conv=>whnf);first|refine exI (q1 _) ?_|refine exI (q2 _) ?_|refine stp ?_|with_reducible apply Z01<;>intro h))
  all_goals (first|(clear q1 q2 q3 hO;simp only[Z5R];(first|(simp_all[Z0Z,ZcP];done)|(simp_all[Z0Z,ZcP];intros;omega)))|skip)
  all_goals (have hown:ZcP op num name kids.length=true:=by (clear q1 q2 q3 hO;simp_all[ZcP]))
  all_goals (conv=>whnf)
  all_goals refine⟨Nat,(λi=>i<=kids.length/\rightL (kids.take i)=true),(λi=>[(1,.ptr 0 0),(3,.int .i64 i)]),(λ_=>[⟨true,0,0,.cells [.int .i64 op,.int .i64 num,.str name,.rs kids.length 4 (exC kids)] 47⟩]),(λi=>kids.length-i),⟨0,⟨Y06 _,rfl⟩,Y03 [0] rfl ?_ ⟨hbp,trivial⟩ rfl⟩,?_⟩
  all_goals first|((repeat (first|exact trivial|refine stw ?_));done)|skip
  all_goals (
   rintro i ⟨hi,hall⟩
   dsimp only
   by_cases hlt:i<kids.length
   · have e1:decide ((i:Int)<(kids.length:Int))=true:=by simpa using hlt
     have hx:=ex4 kids i hlt
     have q3':=q3 i hlt
     have ht:=rightL_take kids i hlt
     rw[hall,Y0d]at ht
     cases hr:Z5R kids[i] with
     |true =>
      rw[hr]at q3' ht
      generalize kids[i]=k at *
      repeat' ((conv=>whnf);first|refine exI hx ?_|refine exI (q3' _) ?_|(with_reducible refine ixJ i rfl ?_ ?_;focus omega)|refine stp ?_|with_reducible apply Z01<;>intro h)
      conv=>whnf
      refine⟨i+1,⟨hlt,ht⟩,by show kids.length-(i+1)<kids.length-i;omega,Y03 [0] rfl ?_ ⟨hbp,trivial⟩ rfl⟩
      exact wks
     |false =>
      have hf:=rightL_get hlt hr
      rw[hr]at q3'
      generalize kids[i]=k at *
      repeat' ((conv=>whnf);first|refine exI hx ?_|refine exI (q3' _) ?_|(with_reducible refine ixJ i rfl ?_ ?_;focus omega)|refine stp ?_|with_reducible apply Z01<;>intro h)
      simp only[Z5R,hf,Y0t];rfl
   · have e1:decide ((i:Int)<(kids.length:Int))=false:=by simpa using hlt
     have hi2:i=kids.length:=by have:=hi;omega
     subst hi2
     rw[Y0a]at hall
     repeat' ((conv=>whnf);(first|refine stp ?_|with_reducible apply Z01<;>intro h))
     simp only[Z5R,hall,hown,Y0q];rfl)
end
section
instance:Inhabited St:=⟨.mk 0 [] [] 0 [] [] []⟩
theorem deepS_eq:∀s:St,ZmA s=max (max (deepSL s.thn) (deepSL s.els)) (deepL s.exprs)+1
 | .mk _ _ _ _ _ _ _=>by simp only[ZmA,St.exprs,St.thn,St.els]
theorem deepSL_take:∀(l:List St)(i:Nat)(h:i<l.length),deepSL (l.take (i+1))=max (deepSL (l.take i)) (ZmA l[i])
 |e::l,0,h=>by simp only[Y09,Y0e,deepSL,Y0m];omega
 |e::l,i+1,h=>by
  have:=deepSL_take l i (by simpa using h)
  simp only[Y09,deepSL,Y0n]at this⊢;omega
mutual
theorem deepS_size:∀s:St,ZmA s<=Z1O s
 | .mk _ _ _ _ x t e=>by have:=deepSL_size t;have:=deepSL_size e;have:=deepL_size x;simp only[ZmA,Z1O];omega
theorem deepSL_size:∀l:List St,deepSL l<=sizeSL l
 |[]=>Y04 _
 |s::l=>by have:=deepS_size s;have:=deepSL_size l;simp only[deepSL,sizeSL];omega
end
theorem deepSL_le:∀(l:List St)(i:Nat),deepSL (l.take i)<=deepSL l
 |[],i=>by simp[deepSL]
 |e::l,0=>by simp[deepSL]
 |e::l,i+1=>by have:=deepSL_le l i;simp only[Y09,deepSL];omega
end
section
variable {gl:Z0g}
theorem dcn(l:List Dc)(i:Nat)(h:i<l.length):tk 1 (((dcC l).drop (i*3)).drop 0)=some [.str l[i].name]:=by
 rw[Zl1 l i h];rfl
theorem dcv(l:List Dc)(i:Nat)(h:i<l.length):tk 1 (((dcC l).drop (i*3)).drop 2)=some [.int .i64 l[i].val]:=by
 rw[Zl1 l i h];rfl
end
section
variable {gl:Z0g}
theorem valN_lt(l:List UInt8)(hd:∀c∈l,Z1d c.toNat=true):∀k,k<=l.length->Z56 (l.take k)<10 ^ k
 |0,_=>by simp[Z56]
 |k+1,h=>by
  have h1:=valN_lt l hd k (by omega)
  have h2:=Zb7 l k (by omega)
  have h3:=hd l[k] (Y0r _)
  simp only[Z1d,Y0b,decide_eq_true_eq]at h3
  rw[h2,Nat.pow_succ];omega
def numR(l:List UInt8):AV:=if (1<l.length/\l.head? = some 48)\/19<l.length then .tuple [.int .i64 0,.bool false] else .tuple [.int .i64 (IntKind.i64.wrap (Z56 l)),.bool (decide ((Z56 l:Int)<9223372036854775808))]
theorem numbR_ok(l:List UInt8)(h0:l≠[])(hl:l.length<=65536)(hd:∀c∈l,Z1d c.toNat=true):ValOK Y00 gl 70 [.str l] (numR l):=by
 obtain⟨c,t,rfl⟩:∃c t,l=c::t:=by cases l with|nil=>exact absurd rfl h0|cons c t=>exact⟨c,t,rfl⟩
 have hc0:(c::t)[0]? = some c:=rfl
 have u0:=Z6r c 48 (by decide)
 have d1:decide (((c::t).length:Int)>1)=decide (1<(c::t).length):=by simp;omega
 have d2:decide (((c::t).length:Int)>19)=decide (19<(c::t).length):=by simp;omega
 refine Z0B follows Z06 Zfa Tryz.func70 rfl ?_
 generalize hl':c::t=l at *
 have hh:l.head? = some c:=by rw[<- hl'];rfl
 by_cases hbad:(1<l.length/\c=48)\/19<l.length
 · have e:numR l = .tuple [.int .i64 0,.bool false]:=by unfold numR;rw[hh];rw[if_pos];simpa using hbad
   rw[e]
   clear e
   repeat' ((conv=>whnf);first|with_reducible refine ixS 0 rfl hc0 ?_|refine stp ?_|with_reducible apply Z01<;>intro h)
   all_goals (first|rfl|(exfalso;simp_all;done)|(exfalso;simp_all;omega))
 · have e:numR l = .tuple [.int .i64 (IntKind.i64.wrap (Z56 l)),.bool (decide ((Z56 l:Int)<9223372036854775808))]:=by unfold numR;rw[hh];rw[if_neg];simpa using hbad
   rw[e]
   have hl19:¬19<l.length:=λh=>hbad (.inr h)
   have d2':decide ((l.length:Int)>19)=false:=by rw[d2];simpa using hl19
   repeat' ((conv=>whnf);first|with_reducible refine ixS 0 rfl hc0 ?_|refine stp ?_|with_reducible apply Z01<;>intro h)
   all_goals (first|(exfalso;simp_all;done)|(exfalso;simp_all;omega)|skip)
   all_goals (conv=>whnf)
   all_goals (
    refine⟨Nat,(λk=>k<=l.length),(λk=>[(0,.str l),(4,.int .u64 (Z56 (l.take k))),(5,.int .i64 k)]),(λ_=>[]),(λk=>l.length-k),⟨0,Y06 _,Y08 rfl ⟨Y02 rfl,Y01 rfl,Y01 rfl,trivial⟩⟩,?_⟩
    intro k hk
    by_cases hlt:k<l.length
    · have e1:decide ((k:Int)<(l.length:Int))=true:=by simpa using hlt
      have hx:l[k]? = some l[k]:=by simp[hlt]
      have hdk:48<=l[k].toNat/\l[k].toNat<=57:=by have:=hd l[k] (Y0r hlt);simp[Z1d]at this;omega
      have hm1:=Zb7 l k hlt
      have hm2:=valN_lt l hd (k+1) hlt
      have hm3:10 ^ (k+1)<=10 ^ 19:=Nat.pow_le_pow_right (by decide) (by omega)
      repeat' ((conv=>whnf);first|with_reducible refine ixS _ rfl hx ?_|refine stp ?_|with_reducible apply Z01<;>intro h)
      conv=>whnf
      have e:IntKind.u64.wrap (IntKind.u64.wrap (↑(Z56 (List.take k l))*10)+IntKind.u64.wrap (IntKind.u8.wrap (↑l[k].toNat-48)))=(Z56 (l.take (k+1)):Int):=by
       simp only[Zoi,IntKind.wrap_u8];omega
      first|rw[e]|skip
      exact⟨k+1,hlt,by show l.length-(k+1)<l.length-k;omega,Y08 rfl ⟨Y02 rfl,Y01 rfl,Y01 rfl,trivial⟩⟩
    · have e1:decide ((k:Int)<(l.length:Int))=false:=by simpa using hlt
      have hk':k=l.length:=by omega
      repeat' ((conv=>whnf);first|refine stp ?_|with_reducible apply Z01<;>intro h)
      rw[hk',Y0a];try rfl)
end
section
theorem rightS_eq:∀x:St,Z8g x=(Zno x&&(rightL x.exprs&&(rightSL x.thn&&rightSL x.els)))
 | .mk _ _ _ _ _ _ _=>by simp only[Z8g,St.exprs,St.thn,St.els]
end
section
variable {gl:Z0g}
theorem plain_numR(l:List UInt8):plain (numR l)=true:=by unfold numR;split<;>rfl
def G7(f:Nat)(xs:List AV):Option AV:=match f with
 |69=>match xs with|[.str x]=>some (.int .i64 (if keysL.contains x then 2 else 1))|_=>none
 |70=>match xs with|[.str l]=>if Zmy l&&decide (l.length<=65536) then some (numR l) else none|_=>none
 |30=>match xs with|[.int .u8 n]=>some (.bool (Z4u n))|_=>none
 |f=>F5 f xs
theorem G7_val{f:Nat}{xs:List AV}{r:AV}(h:G7 f xs=some r):plain r=true/\ValOK Y00 gl f xs r:=by
 unfold G7 at h
 split at h
 · split at h<;>cases h
   exact⟨rfl,ZlT _⟩
 · split at h<;>try (cases h;done)
   split at h<;>cases h
   rename_i hd
   simp only[Y0b,decide_eq_true_eq]at hd
   obtain⟨h1,h2,h3⟩:=Zi6 hd.1
   exact⟨plain_numR _,numbR_ok _ h1 hd.2 h3⟩
 · split at h<;>cases h
   exact⟨rfl,Zdp _⟩
 ·exact ZiL h
theorem G7_sound:OrcSound Y00 gl (Z7H G7):=Z0V λf xs r h=>G7_val h
def sgnsL:List (List UInt8):=[[124,124],[38,38],[61,61],[33,61],[60,61],[60],[43],[45],[42],[38],[124],[94],[33],[61],[40],[41],[123],[125],[44],[59]]
def fitB(t p:List UInt8):Bool:=t.take p.length==p
def sgn1(t:List UInt8)(l:List (List UInt8)):Nat:=match l.find? (fitB t) with|some p=>p.length|none=>0
theorem sgn_one(c:UInt8):sgn1 [c] sgnsL=Z0q [c]:=by
 by_cases h1:c=124;· subst h1;decide
 by_cases h2:c=38;· subst h2;decide
 by_cases h3:c=61;· subst h3;decide
 by_cases h4:c=33;· subst h4;decide
 by_cases h5:c=60;· subst h5;decide
 by_cases h6:c=43;· subst h6;decide
 by_cases h7:c=45;· subst h7;decide
 by_cases h8:c=42;· subst h8;decide
 by_cases h9:c=94;· subst h9;decide
 by_cases h10:c=40;· subst h10;decide
 by_cases h11:c=41;· subst h11;decide
 by_cases h12:c=123;· subst h12;decide
 by_cases h13:c=125;· subst h13;decide
 by_cases h14:c=44;· subst h14;decide
 by_cases h15:c=59;· subst h15;decide
 have e:sgn1 [c] sgnsL=0:=by simp[sgn1,sgnsL,fitB, *]
 rw[e];simp[Z0q, *]
theorem sgn_two(c d:UInt8)(t:List UInt8):sgn1 (c::d::t) sgnsL=Z0q (c::d::t):=by
 by_cases k1:d=124<;>by_cases k2:d=38<;>by_cases k3:d=61
 all_goals (try (subst k1);try (subst k2);try (subst k3))
 all_goals (try (exfalso;revert k1;decide))
 all_goals (try (exfalso;revert k2;decide))
 all_goals (try (exfalso;revert k3;decide))
 all_goals (try have b1:(d==124)=false:=beq_eq_false_iff_ne.2 k1)
 all_goals (try have b2:(d==38)=false:=beq_eq_false_iff_ne.2 k2)
 all_goals (try have b3:(d==61)=false:=beq_eq_false_iff_ne.2 k3)
 all_goals (
  by_cases h1:c=124;· subst h1;simp[sgn1,sgnsL,fitB,Z0q,List.find?, *]
  by_cases h2:c=38;· subst h2;simp[sgn1,sgnsL,fitB,Z0q,List.find?, *]
  by_cases h3:c=61;· subst h3;simp[sgn1,sgnsL,fitB,Z0q,List.find?, *]
  by_cases h4:c=33;· subst h4;simp[sgn1,sgnsL,fitB,Z0q,List.find?, *]
  by_cases h5:c=60;· subst h5;simp[sgn1,sgnsL,fitB,Z0q,List.find?, *]
  by_cases h6:c=43;· subst h6;simp[sgn1,sgnsL,fitB,Z0q,List.find?, *]
  by_cases h7:c=45;· subst h7;simp[sgn1,sgnsL,fitB,Z0q,List.find?, *]
  by_cases h8:c=42;· subst h8;simp[sgn1,sgnsL,fitB,Z0q,List.find?, *]
  by_cases h9:c=94;· subst h9;simp[sgn1,sgnsL,fitB,Z0q,List.find?, *]
  by_cases h10:c=40;· subst h10;simp[sgn1,sgnsL,fitB,Z0q,List.find?, *]
  by_cases h11:c=41;· subst h11;simp[sgn1,sgnsL,fitB,Z0q,List.find?, *]
  by_cases h12:c=123;· subst h12;simp[sgn1,sgnsL,fitB,Z0q,List.find?, *]
  by_cases h13:c=125;· subst h13;simp[sgn1,sgnsL,fitB,Z0q,List.find?, *]
  by_cases h14:c=44;· subst h14;simp[sgn1,sgnsL,fitB,Z0q,List.find?, *]
  by_cases h15:c=59;· subst h15;simp[sgn1,sgnsL,fitB,Z0q,List.find?, *]
  simp[sgn1,sgnsL,fitB,Z0q,List.find?, *,beq_eq_false_iff_ne.2 h1,beq_eq_false_iff_ne.2 h2,beq_eq_false_iff_ne.2 h3,beq_eq_false_iff_ne.2 h4,beq_eq_false_iff_ne.2 h5,beq_eq_false_iff_ne.2 h6,beq_eq_false_iff_ne.2 h7,beq_eq_false_iff_ne.2 h8,beq_eq_false_iff_ne.2 h9,beq_eq_false_iff_ne.2 h10,beq_eq_false_iff_ne.2 h11,beq_eq_false_iff_ne.2 h12,beq_eq_false_iff_ne.2 h13,beq_eq_false_iff_ne.2 h14,beq_eq_false_iff_ne.2 h15])
theorem sgn_eq(t:List UInt8):sgn1 t sgnsL=Z0q t:=by
 match t with
 |[]=>decide
 |[c]=>exact sgn_one c
 |c::d::t=>exact sgn_two c d t
def resB:Z00:=[⟨true,0,0,.cells [.int .i64 0,.str [],.int .i64 0,.int .i64 0] 38⟩]
def noTok:AV:=.tuple [.agg [.int .i64 0,.str [],.int .i64 0,.int .i64 0],.bool false]
def oneR(s:List UInt8)(k:Nat):AV:=match Z50 (s.drop k) with
 |none=>noTok
 |some (kind,len,num)=>.tuple [.agg [.int .i64 kind,.str ((s.drop k).take len),.int .i64 num,.int .i64 k],.bool true]
theorem wordN_let{s:List UInt8}{k:Nat}(hk:k<s.length):Z0d (s.drop k)=if Z7m s[k].toNat then Z0j Zcq (s.drop k) else 0:=by
 rw[Y0g hk];rfl
theorem one_word{s:List UInt8}{k:Nat}(hs:s.length<=65536)(hk:k<s.length)(hl:Z7m s[k].toNat=true):ValOK Y00 gl 31 [.str s,.int .i64 k] (oneR s k):=by
 have hx:s[k]? = some s[k]:=by simp[hk]
 have hw:Z0d (s.drop k)=Z0j Zcq (s.drop k):=by rw[wordN_let hk,if_pos hl]
 have hw0:0<Z0d (s.drop k):=by rw[hw,spanN_at hk];simp[Zcq,hl]
 have ht:Z50 (s.drop k)=some (if keysL.contains ((s.drop k).take (Z0d (s.drop k))) then 2 else 1,Z0d (s.drop k),0):=by unfold Z50;rw[if_pos hw0]
 refine Z0B follows Z06 G7_sound Tryz.func31 rfl ?_
 repeat' ((conv=>whnf);first|with_reducible refine ixS _ rfl hx ?_|refine stp ?_|with_reducible apply Z01<;>intro h)
 conv=>whnf
 refine⟨Nat,(λe=>e<=s.length/\k<=e/\Z0j Zcq (s.drop k)=(e-k)+Z0j Zcq (s.drop e)),(λe=>[(0,.str s),(1,.int .i64 k),(4,.ptr 0 0),(6,.int .i64 e)]),(λ_=>resB),(λe=>s.length-e),⟨k,⟨by omega,by omega,by omega⟩,Y03 [0] rfl ⟨Y02 rfl,Y01 rfl,Y05 rfl rfl,Y01 rfl,trivial⟩ ⟨hbp,trivial⟩ rfl⟩,?_⟩
 intro e ⟨he,hke,hsp⟩
 by_cases hlt:e<s.length
 · have e1:decide ((e:Int)<(s.length:Int))=true:=by simpa using hlt
   have hy:s[e]? = some s[e]:=by simp[hlt]
   have hat:=spanN_at (p:=Zcq) hlt
   cases hp:Zcq s[e].toNat with
   |true =>
    rw[hp,if_pos rfl]at hat
    repeat' ((conv=>whnf);first|with_reducible refine ixS _ rfl hy ?_|refine stp ?_|with_reducible apply Z01<;>intro h)
    all_goals (first|(exfalso;simp_all[Zcq];done)|skip)
    all_goals (conv=>whnf)
    all_goals exact⟨e+1,⟨hlt,by omega,by omega⟩,by show s.length-(e+1)<s.length-e;omega,Y03 [0] rfl ⟨Y02 rfl,Y01 rfl,Y05 rfl rfl,Y01 rfl,trivial⟩ ⟨hbp,trivial⟩ rfl⟩
   |false =>
    rw[hp,if_neg (by decide)]at hat
    have hn:e-k=Z0d (s.drop k):=by omega
    repeat' ((conv=>whnf);first|with_reducible refine ixS _ rfl hy ?_|refine stp ?_|with_reducible apply Z01<;>intro h)
    all_goals (first|(exfalso;simp_all[Zcq];done)|skip)
    all_goals (unfold oneR;rw[ht];simp only[hn];try rfl)
    all_goals (split<;>rfl)
 · have e1:decide ((e:Int)<(s.length:Int))=false:=by simpa using hlt
   have hat:=spanN_end (p:=Zcq) hlt
   have hn:e-k=Z0d (s.drop k):=by omega
   repeat' ((conv=>whnf);first|refine stp ?_|with_reducible apply Z01<;>intro h)
   unfold oneR;rw[ht];simp only[hn];split<;>rfl
def sgnB:Z00:=[⟨true,0,0,.cells [.int .i64 0,.str [],.int .i64 0,.int .i64 0] 38⟩,⟨true,1,0,.cells (sgnsL.map AV.str) 9⟩]
theorem dig_no_sign{c:UInt8}(h:Z1d c.toNat=true)(t:List UInt8):Z0q (c::t)=0:=by
 have hc:48<=c.toNat/\c.toNat<=57:=by simp[Z1d]at h;omega
 have ne:∀d:UInt8,(d.toNat<48\/57<d.toNat)->c≠d:=λd hd e=>by subst e;omega
 have hm:[124,38,61,33,60,43,45,42,94,40,41,123,125,44,59].contains c=false:=by
  rw[Bool.eq_false_iff]
  intro hc
  rw[List.contains_iff_mem]at hc
  simp only[List.mem_cons,List.not_mem_nil,or_false]at hc
  rcases hc with h|h|h|h|h|h|h|h|h|h|h|h|h|h|h<;>exact ne _ (by decide) h
 match t with
 |[]=>simp only[Z0q];rw[hm];rfl
 |d::t =>
  simp only[Z0q]
  rw[if_neg (by
   rintro (⟨_,h|h|h⟩|⟨_,h|h⟩)<;>exact ne _ (by decide) h),hm];rfl
theorem valN_ge(l:List UInt8)(h0:l.head? ≠ some 48)(hd:∀c∈l,Z1d c.toNat=true):∀k,k+1<=l.length->10 ^ k<=Z56 (l.take (k+1))
 |0,h=>by
  cases l with
  |nil=>simp at h
  |cons c t =>
   have h3:=hd c (by simp)
   simp only[Z1d,Y0b,decide_eq_true_eq]at h3
   have h4:c.toNat≠48:=λe=>h0 (by
    have:c=48:=UInt8.toNat_inj.1 e
    subst this;rfl)
   simp[Z56];omega
 |k+1,h=>by
  have h1:=valN_ge l h0 hd k (by omega)
  have h2:=Zb7 l (k+1) h
  rw[h2,Nat.pow_succ];omega
theorem valN_big{l:List UInt8}(h0:l.head? ≠ some 48)(hd:∀c∈l,Z1d c.toNat=true)(h:19<l.length):¬Z56 l<9223372036854775808:=by
 have h1:=valN_ge l h0 hd (l.length-1) (by omega)
 have e:l.length-1+1=l.length:=by omega
 rw[e,Y0a]at h1
 have h2:10 ^ 19<=10 ^ (l.length-1):=Nat.pow_le_pow_right (by decide) (by omega)
 omega
theorem head_take{s:List UInt8}{n:Nat}(h:0<n):(s.take n).head? = s.head?:=by
 cases s with
 |nil=>simp
 |cons c t=>cases n with|zero=>omega|succ n=>rfl
theorem one_dig{s:List UInt8}{k:Nat}(hs:s.length<=65536)(hk:k<s.length)(hl:Z7m s[k].toNat=false)(hd:Z1d s[k].toNat=true):ValOK Y00 gl 31 [.str s,.int .i64 k] (oneR s k):=by
 have hx:s[k]? = some s[k]:=by simp[hk]
 have hdr:=Y0g hk
 have hw:Z0d (s.drop k)=0:=by rw[wordN_let hk,hl];rfl
 have hsg:Z0q (s.drop k)=0:=by rw[hdr];exact dig_no_sign hd _
 have hn0:0<Z0j Z1d (s.drop k):=by rw[spanN_at hk,hd,if_pos rfl];omega
 have hle:=Z2S Z1d (s.drop k)
 have hdl:(s.drop k).length=s.length-k:=Y0j
 have hdg:=Zi5 (s:=s.drop k) (by omega) hn0
 have htl:((s.drop k).take (Z0j Z1d (s.drop k))).length=Z0j Z1d (s.drop k):=by rw[Y0o];omega
 have hhd:((s.drop k).take (Z0j Z1d (s.drop k))).head? = (s.drop k).head?:=head_take hn0
 have hne:=Z6C (s.drop k)
 have hy:(s.drop k)[Z0j Z1d (s.drop k)]? = s[k+Z0j Z1d (s.drop k)]?:=by simp
 have e0:G7 70 [.str ((s.drop k).take (Z0j Z1d (s.drop k)))]=some (numR ((s.drop k).take (Z0j Z1d (s.drop k)))):=by
  simp only[G7];rw[if_pos];simp only[hdg,Y0d,decide_eq_true_eq];omega
 have hb:Z0h Y00 70=true:=by kernel_rfl
 refine Z0B follows Z06 G7_sound Tryz.func31 rfl ?_
 repeat' ((conv=>whnf);first|with_reducible refine ixS _ rfl hx ?_|refine stp ?_|with_reducible apply Z01<;>intro h)
 conv=>whnf
 refine⟨Nat,(λe=>e<=s.length/\k<=e/\Z0j Z1d (s.drop k)=(e-k)+Z0j Z1d (s.drop e)),(λe=>[(0,.str s),(1,.int .i64 k),(4,.ptr 0 0),(6,.int .i64 e)]),(λ_=>resB),(λe=>s.length-e),⟨k,⟨by omega,by omega,by omega⟩,Y03 [0] rfl ⟨Y02 rfl,Y01 rfl,Y05 rfl rfl,Y01 rfl,trivial⟩ ⟨hbp,trivial⟩ rfl⟩,?_⟩
 intro e ⟨he,hke,hsp⟩
 generalize hnn:Z0j Z1d (s.drop k)=n at *
 generalize hxx:(s.drop k).take n=x at *
 have hdx:=Zi6 hdg
 have hcs:(∃w,numR x = .tuple [.int .i64 w,.bool false]/\Z50 (s.drop k)=none)\/(∃v:Nat,numR x = .tuple [.int .i64 v,.bool true]/\Z50 (s.drop k)=if Zfj (s.drop k) n then none else some (3,n,v)):=by
  have t1:(Z1B (s.drop k)).1=0->Z50 (s.drop k)=none:=λh=>by unfold Z50;rw[if_neg (by omega),if_neg (by omega),if_neg (by omega)]
  by_cases hbad:(1<x.length/\x.head? = some 48)\/19<x.length
  · refine .inl ⟨0,by unfold numR;rw[if_pos hbad],t1 ?_⟩
    rw[hne,if_pos]
    by_cases hz:1<x.length/\x.head? = some 48
    ·exact .inr (.inl (by rw[<- htl,<- hhd];exact hz))
    · have h19:19<x.length:=by rcases hbad with h|h;exact absurd h hz;exact h
      exact .inr (.inr (.inr (valN_big (λh=>hz ⟨by omega,h⟩) hdx.2.2 h19)))
  · by_cases hv:Z56 x<9223372036854775808
    · have dv:decide ((Z56 x:Int)<9223372036854775808)=true:=by simp;omega
      refine .inr ⟨Z56 x,by unfold numR;rw[if_neg hbad,IntWalk.i64_in _ ⟨by omega,by omega⟩,dv],?_⟩
      by_cases htB:Zfj (s.drop k) n=true
      ·rw[if_pos htB];exact t1 (by rw[hne,if_pos (.inr (.inr (.inl htB)))])
      · rw[if_neg htB]
        have e2:Z1B (s.drop k)=(n,Z56 x):=by
         rw[hne,if_neg]
         rintro (h|h|h|h)
         ·omega
         ·rw[<- htl,<- hhd]at h;exact hbad (.inl h)
         ·exact htB h
         ·exact h hv
        unfold Z50;rw[if_neg (by omega),e2,if_pos hn0]
    · have dv:decide ((Z56 x:Int)<9223372036854775808)=false:=by simp;omega
      refine .inl ⟨IntKind.i64.wrap (Z56 x),by unfold numR;rw[if_neg hbad,dv],t1 (by rw[hne,if_pos (.inr (.inr (.inr hv)))])⟩
 by_cases hlt:e<s.length
 · have e1:decide ((e:Int)<(s.length:Int))=true:=by simpa using hlt
   have hye:s[e]? = some s[e]:=by simp[hlt]
   have hat:=spanN_at (p:=Z1d) hlt
   cases hp:Z1d s[e].toNat with
   |true =>
    rw[hp,if_pos rfl]at hat
    clear hcs hy hne hdg e0 hdx hxx htl
    repeat' ((conv=>whnf);first|with_reducible refine ixS _ rfl hye ?_|refine stp ?_|with_reducible apply Z01<;>intro h)
    conv=>whnf
    exact⟨e+1,⟨hlt,by omega,by omega⟩,by show s.length-(e+1)<s.length-e;omega,Y03 [0] rfl ⟨Y02 rfl,Y01 rfl,Y05 rfl rfl,Y01 rfl,trivial⟩ ⟨hbp,trivial⟩ rfl⟩
   |false =>
    rw[hp,if_neg (by decide)]at hat
    have hn:n=e-k:=by omega
    have hke':k+n=e:=by omega
    have hxe:(s.drop k).take (e-k)=x:=by rw[<- hn];exact hxx
    have htl2:Zfj (s.drop k) n=(Z7m s[e].toNat || s[e]==95):=by unfold Zfj;rw[hy,hke',hye]
    have u1:=Z6r s[e] 95 (by decide)
    have e0':G7 70 [.str ((s.drop k).take (e-k))]=some (numR x):=by rw[hxe];exact e0
    rcases hcs with ⟨w,h1,h2⟩|⟨v,h1,h2⟩
    · rw[h1]at e0'
      clear hy hne hdg e0 hdx htl htl2 u1 hx
      repeat' ((conv=>whnf);first|with_reducible refine ixS _ rfl hye ?_|with_reducible refine exI (Z25 hb rfl e0') ?_|refine stp ?_|with_reducible apply Z01<;>intro h)
      unfold oneR;rw[h2];rfl
    · rw[h1]at e0'
      rw[htl2]at h2
      clear hy hne hdg e0 hdx htl htl2 hx
      repeat' ((conv=>whnf);first|with_reducible refine ixS _ rfl hye ?_|with_reducible refine exI (Z25 hb rfl e0') ?_|refine stp ?_|with_reducible apply Z01<;>intro h)
      ·unfold oneR;rw[h2,if_pos (by simp_all)];rfl
      ·unfold oneR;rw[h2,if_pos (by simp_all)];rfl
      ·unfold oneR;rw[h2,if_neg (by simp_all)];simp only[hn];rfl
 · have e1:decide ((e:Int)<(s.length:Int))=false:=by simpa using hlt
   have hat:=spanN_end (p:=Z1d) hlt
   have hn:n=e-k:=by omega
   have hxe:(s.drop k).take (e-k)=x:=by rw[<- hn];exact hxx
   have htl2:Zfj (s.drop k) n=false:=by unfold Zfj;rw[hy,List.getElem?_eq_none (by omega)]
   have e0':G7 70 [.str ((s.drop k).take (e-k))]=some (numR x):=by rw[hxe];exact e0
   rcases hcs with ⟨w,h1,h2⟩|⟨v,h1,h2⟩
   · rw[h1]at e0'
     clear hy hne hdg e0 hdx htl htl2 hx
     repeat' ((conv=>whnf);first|with_reducible refine exI (Z25 hb rfl e0') ?_|refine stp ?_|with_reducible apply Z01<;>intro h)
     unfold oneR;rw[h2];rfl
   · rw[h1]at e0'
     rw[htl2]at h2
     clear hy hne hdg e0 hdx htl htl2 hx
     repeat' ((conv=>whnf);first|with_reducible refine exI (Z25 hb rfl e0') ?_|refine stp ?_|with_reducible apply Z01<;>intro h)
     unfold oneR;rw[h2];simp only[hn];rfl
theorem one_sign{s:List UInt8}{k:Nat}(hs:s.length<=65536)(hk:k<s.length)(hl:Z7m s[k].toNat=false)(hd:Z1d s[k].toNat=false):ValOK Y00 gl 31 [.str s,.int .i64 k] (oneR s k):=by
 have hx:s[k]? = some s[k]:=by simp[hk]
 have hw:Z0d (s.drop k)=0:=by rw[wordN_let hk,hl];rfl
 have hn:(Z1B (s.drop k)).1=0:=by unfold Z1B;rw[if_pos];exact .inl (by rw[spanN_at hk,hd];rfl)
 have ht:Z50 (s.drop k)=if 0<Z0q (s.drop k) then some (4,Z0q (s.drop k),0) else none:=by unfold Z50;rw[if_neg (by omega),if_neg (by omega)]
 refine Z1z (λg=>!Y0f g 71) 2 follows Z06 G7_sound Tryz.func31 rfl ?_
 repeat' ((conv=>whnf);first|with_reducible refine ixS _ rfl hx ?_|refine stp ?_|with_reducible apply Z01<;>intro h)
 conv=>whnf
 refine⟨Nat,(λi=>i<=20/\Z0q (s.drop k)=sgn1 (s.drop k) (sgnsL.drop i)),(λi=>[(0,.str s),(1,.int .i64 k),(4,.ptr 0 0),(9,.slice 1 0 20 20 1),(10,.int .i64 i)]),(λ_=>sgnB),(λi=>20-i),⟨0,⟨by omega,(sgn_eq _).symm⟩,?_⟩,?_⟩
 · refine Y03 [0,1] rfl ?_ ?_ rfl
   ·exact⟨Y02 rfl,Y01 rfl,Y05 rfl rfl,Y0c rfl rfl rfl (Y04 _) (Y04 _) rfl,Y01 rfl,trivial⟩
   ·exact⟨hbp,hbp,trivial⟩
 intro i ⟨hi,hsg⟩
 by_cases hlt:i<20
 · have e1:decide ((i:Int)<20)=true:=by simp;omega
   have hlk:i<sgnsL.length:=hlt
   have hdr:sgnsL.drop i=sgnsL[i]::sgnsL.drop (i+1):=Y0g hlk
   have hl2:sgnsL[i].length<=2/\0<sgnsL[i].length:=by
    have h:(sgnsL.all λp=>decide (p.length<=2/\0<p.length))=true:=by decide
    simpa using List.all_eq_true.1 h _ (Y0r hlk)
   have hdl:(s.drop k).length=s.length-k:=Y0j
   have hcell:(sgnsL.map AV.str)[i]? = some (.str sgnsL[i]):=by simp[hlk]
   generalize sgnsL[i]=p at *
   by_cases hfit:fitB (s.drop k) p=true
   · have hpl : p.length <= s.length - k := by
      have:=congrArg List.length (eq_of_beq hfit)
      rw[Y0o]at this;omega
     have d1:decide ((s.length:Int)-(k:Int) >= (p.length:Int))=true:=by simp;omega
     have d2:(List.take (k+p.length-k) (List.drop k s)==p)=true:=by rw[Nat.add_sub_cancel_left];exact hfit
     have hsn:Z0q (s.drop k)=p.length:=by rw[hsg,hdr,sgn1,List.find?,hfit]
     have htk:(s.drop k).take p.length=p:=eq_of_beq hfit
     repeat' ((conv=>whnf);first|with_reducible refine exI (tk1_get (c:=.str p) hcell) ?_|refine exI (tk1_get (c:=.str p) (by simpa using hcell)) ?_|refine stp ?_|with_reducible apply Z01<;>intro h)
     unfold oneR;rw[ht,if_pos (by omega)];simp only[hsn,htk];rfl
   · have d2:(List.take (k+p.length-k) (List.drop k s)==p)=false:=by rw[Nat.add_sub_cancel_left];simpa[fitB]using hfit
     have hsn:Z0q (s.drop k)=sgn1 (s.drop k) (sgnsL.drop (i+1)):=by rw[hsg,hdr,sgn1,List.find?,Bool.eq_false_iff.2 hfit];rfl
     by_cases hpl:p.length<=s.length-k
     · have d1:decide ((s.length:Int)-(k:Int) >= (p.length:Int))=true:=by simp;omega
       repeat' ((conv=>whnf);first|refine exI (tk1_get (c:=.str p) (by simpa using hcell)) ?_|refine stp ?_|with_reducible apply Z01<;>intro h)
       conv=>whnf
       exact⟨i+1,⟨hlt,hsn⟩,by show 20-(i+1)<20-i;omega,Y03 [0,1] rfl ⟨Y02 rfl,Y01 rfl,Y05 rfl rfl,Y0c rfl rfl rfl (Y04 _) (Y04 _) rfl,Y01 rfl,trivial⟩ ⟨hbp,hbp,trivial⟩ rfl⟩
     · have d1:decide ((s.length:Int)-(k:Int) >= (p.length:Int))=false:=by simp;omega
       repeat' ((conv=>whnf);first|refine exI (tk1_get (c:=.str p) (by simpa using hcell)) ?_|refine stp ?_|with_reducible apply Z01<;>intro h)
       conv=>whnf
       exact⟨i+1,⟨hlt,hsn⟩,by show 20-(i+1)<20-i;omega,Y03 [0,1] rfl ⟨Y02 rfl,Y01 rfl,Y05 rfl rfl,Y0c rfl rfl rfl (Y04 _) (Y04 _) rfl,Y01 rfl,trivial⟩ ⟨hbp,hbp,trivial⟩ rfl⟩
 · have e1:decide ((i:Int)<20)=false:=by simp;omega
   have hi':i=20:=by omega
   subst hi'
   have h0:Z0q (s.drop k)=0:=hsg
   repeat' ((conv=>whnf);first|refine stp ?_|with_reducible apply Z01<;>intro h)
   unfold oneR;rw[ht,if_neg (by omega)];rfl
end
section
variable {gl:Z0g}
theorem plain_oneR(s:List UInt8)(k:Nat):plain (oneR s k)=true:=by unfold oneR;split<;>rfl
theorem one_ok{s:List UInt8}{k:Nat}(hs:s.length<=65536)(hk:k<s.length):ValOK Y00 gl 31 [.str s,.int .i64 k] (oneR s k):=by
 cases hl:Z7m s[k].toNat with
 |true=>exact one_word hs hk hl
 |false=>cases hd:Z1d s[k].toNat with
  |true=>exact one_dig hs hk hl hd
  |false=>exact one_sign hs hk hl hd
def G8(f:Nat)(xs:List AV):Option AV:=match f with
 |31=>match xs with|[.str s,.int .i64 (.ofNat k)]=>if s.length<=65536/\k<s.length then some (oneR s k) else none|_=>none
 |f=>G7 f xs
theorem G8_val{f:Nat}{xs:List AV}{r:AV}(h:G8 f xs=some r):plain r=true/\ValOK Y00 gl f xs r:=by
 unfold G8 at h
 split at h<;>try (exact G7_val h)
 split at h<;>try (cases h;done)
 split at h<;>cases h
 rename_i hd
 exact⟨plain_oneR _ _,one_ok hd.1 hd.2⟩
theorem G8_sound:OrcSound Y00 gl (Z7H G8):=Z0V λf xs r h=>G8_val h
def lexAt(n k:Nat)(s:List UInt8):Nat ⊕ List Tk:=Z4R n (k+skip false (s.drop k)) (s.drop (k+skip false (s.drop k)))
theorem lexAt_bla{n k:Nat}{s:List UInt8}(hk:k<s.length)(h:Z4u s[k].toNat=true):lexAt n k s=lexAt n (k+1) s:=by
 have:skip false (s.drop k)=skip false (s.drop (k+1))+1:=by rw[Y0g hk];simp only[skip];rw[if_pos h]
 unfold lexAt;rw[this]
 have e:k+(skip false (s.drop (k+1))+1)=k+1+skip false (s.drop (k+1)):=by omega
 rw[e]
theorem skip_remark{k:Nat}{s:List UInt8}(hk:k+1<s.length)(h1:s[k]=47)(h2:s[k+1]=47):skip false (s.drop k)=skip true (s.drop k):=by
 rw[Y0g (by omega:k<s.length)]
 have hb:Z4u ((47:UInt8).toNat:Int)=false:=by decide
 have hh:(s.drop (k+1)).head? = some 47:=by rw[Y0g hk,h2];rfl
 simp only[skip,h1,hb,hh]
 rw[if_neg (by decide),if_pos (by simp),if_neg (by decide)]
theorem lexAt_rem{n k:Nat}{s:List UInt8}(hk:k+1<s.length)(h1:s[k]=47)(h2:s[k+1]=47):lexAt n k s=lexAt n (k+Z0j (· != 10) (s.drop k)) s:=by
 have e1:=skip_remark hk h1 h2
 have e2:=Ze0 (s.drop k)
 rw[Y0u]at e2
 unfold lexAt;rw[e1,e2,<- Nat.add_assoc]
theorem skip_none{k:Nat}{s:List UInt8}(hk:k<s.length)(hb:Z4u s[k].toNat=false)(h:¬(s[k]=47/\s[k+1]? = some 47)):skip false (s.drop k)=0:=by
 rw[Y0g hk]
 have hh:(s.drop (k+1)).head? = s[k+1]?:=by simp[List.head?_drop]
 simp only[skip,hb,hh]
 rw[if_neg (by decide),if_neg h]
theorem lexAt_tok {n k : Nat} {s : List UInt8} (hk : k < s.length) (hb : Z4u s[k].toNat = false) (h : ¬ (s[k] = 47 /\ s[k + 1]? = some 47)) :
  lexAt (n+1) k s=match Z50 (s.drop k) with
   |none=>.inl k
   |some (kind,len,num)=>match lexAt n (k+len) s with
    | .inl e=>.inl e
    | .inr l=>.inr (⟨kind,(s.drop k).take len,num,k⟩::l):=by
 have h0:=skip_none hk hb h
 have hne:¬s.drop k=[]:=by intro e;have:=congrArg List.length e;simp at this;omega
 unfold lexAt
 rw[h0]
 simp only[Nat.add_zero]
 rw[Z4R,if_neg hne]
 cases Z50 (s.drop k) with
 |none=>rfl
 |some p=>obtain⟨a,b,c⟩:=p;simp only[Y0u];rw[<- Nat.add_assoc];rfl
theorem lexAt_end{n k:Nat}{s:List UInt8}(hk:s.length<=k):lexAt (n+1) k s = .inr []:=by
 have:s.drop k=[]:=Y0z hk
 have h2:s.drop (k+skip false (s.drop k))=[]:=Y0z (by omega)
 unfold lexAt;rw[Z4R,if_pos h2]
theorem lexAt_zero(s:List UInt8):Z6q s=lexAt (s.length+1) 0 s:=by unfold Z6q lexAt;simp only[Y0p,Nat.zero_add]
attribute [local irreducible] Z1B Z0d Z0q skip Z0j
theorem allRef_ok(s:List UInt8)(hs:s.length<=65536):ValOK Y00 gl 10 [.str s] (ZiZ s):=by
 have e0:decide ((s.length:Int)>65536)=false:=by simp;omega
 refine Z0B follows Z06 G8_sound Tryz.func10 rfl ?_
 repeat' ((conv=>whnf);first|refine stp ?_|with_reducible apply Z01<;>intro h)
 conv=>whnf
 refine⟨Nat×Nat×List Tk,(λp=>p.1<=s.length/\s.length<p.1+p.2.1/\Z6q s=Z95 p.2.2 (lexAt p.2.1 p.1 s)/\p.2.2.length<=p.1),(λp=>[(0,.str s),(3,.ptr 0 0),(4,match p.2.2 with|[]=>.nslice|_::_=>.slice 1 0 p.2.2.length p.2.2.length 4),(5,.int .i64 p.1)]),
  (λp=>⟨true,0,0,.cells [.int .i64 0,.int .i64 0] 29⟩::match p.2.2 with|[]=>[]|_::_=>[⟨true,1,0,.cells (Zcw p.2.2) 38⟩]),(λp=>s.length-p.1),⟨(0,s.length+1,[]),?_,?_⟩,?_⟩
 ·exact⟨Y06 _,by show s.length<0+(s.length+1);omega,((Zhg _).trans (lexAt_zero s).symm).symm,Y06 _⟩
 · refine Y03 [0] rfl ?_ ?_ rfl
   ·exact⟨Y02 rfl,Y05 rfl rfl,Y02 rfl,Y01 rfl,trivial⟩
   ·exact⟨hbp,trivial⟩
 · rintro⟨k,n,acc⟩ ⟨h1,h2,h3,h4⟩
   dsimp only at h1 h2 h3 h4
   by_cases hk:k<s.length
   · have e1:decide ((k:Int)<(s.length:Int))=true:=by simpa using hk
     have hx:s[k]? = some s[k]:=by simp[hk]
     cases hb:Z4u s[k].toNat with
     |true =>
      have h5:=lexAt_bla (n:=n) hk hb
      cases acc with
      |nil =>
       dsimp only
       repeat' ((conv=>whnf);first|with_reducible refine ixS _ rfl hx ?_|refine stp ?_|with_reducible apply Z01<;>intro h)
       conv=>whnf
       refine⟨(k+1,n,[]),⟨hk,by show s.length<k+1+n;omega,h3.trans (by rw[h5]),Y06 _⟩,by show s.length-(k+1)<s.length-k;omega,Y03 [0] rfl ⟨Y02 rfl,Y05 rfl rfl,Y02 rfl,Y01 rfl,trivial⟩ ⟨hbp,trivial⟩ rfl⟩
      |cons a acc =>
       dsimp only
       repeat' ((conv=>whnf);first|with_reducible refine ixS _ rfl hx ?_|refine stp ?_|with_reducible apply Z01<;>intro h)
       conv=>whnf
       refine⟨(k+1,n,a::acc),⟨hk,by show s.length<k+1+n;omega,h3.trans (by rw[h5]),by show (a::acc).length<=k+1;omega⟩,by show s.length-(k+1)<s.length-k;omega,Y03 [0,1] rfl ⟨Y02 rfl,Y05 rfl rfl,Y0c rfl rfl rfl (Y04 _) (Y04 _) rfl,Y01 rfl,trivial⟩ ⟨hbp,⟨rfl,rfl,rfl,rfl,Y0k (rest:=[]) (Y0h _).symm (Z4b _)⟩,trivial⟩ rfl⟩
     |false =>
      by_cases hr:s[k]=47/\s[k+1]? = some 47
      ·
       obtain⟨r1,r2⟩:=hr
       have hk1:k+1<s.length:=by
        refine Classical.byContradiction λh=>?_
        rw[List.getElem?_eq_none (by omega)]at r2;cases r2
       have r3:s[k+1]=47:=by have:=Y0i hk1;rw[this]at r2;exact Option.some.inj r2
       have e2:decide (((k+1:Nat):Int)<(s.length:Int))=true:=by simp;omega
       have hx1:s[k+1]? = some s[k+1]:=by simp[hk1]
       have h5:=lexAt_rem (n:=n) hk1 r1 r3
       have q1:((s[k].toNat:Int)==47)=true:=by rw[r1];rfl
       have q2:((s[k+1].toNat:Int)==47)=true:=by rw[r3];rfl
       have hpos:0<Z0j (· != 10) (s.drop k):=by rw[spanN_at hk,r1,if_pos (by decide)];omega
       cases acc with
       |nil =>
        dsimp only
        repeat' ((conv=>whnf);first|with_reducible refine ixS _ rfl hx ?_|with_reducible refine ixS _ rfl hx1 ?_|refine stp ?_|with_reducible apply Z01<;>intro h)
        conv=>whnf
        refine⟨Nat,(λe=>e<=s.length/\k<=e/\Z0j (· != 10) (s.drop k)=(e-k)+Z0j (· != 10) (s.drop e)),(λe=>[(0,.str s),(3,.ptr 0 0),(4,.nslice),(5,.int .i64 e)]),(λ_=>[⟨true,0,0,.cells [.int .i64 0,.int .i64 0] 29⟩]),(λe=>s.length-e),⟨k,⟨by omega,by omega,by omega⟩,Y03 [0] rfl ⟨Y02 rfl,Y05 rfl rfl,Y02 rfl,Y01 rfl,trivial⟩ ⟨hbp,trivial⟩ rfl⟩,?_⟩
        intro e ⟨he,hke,hsp⟩
        by_cases hlt:e<s.length
        · have f1:decide ((e:Int)<(s.length:Int))=true:=by simpa using hlt
          have hye:s[e]? = some s[e]:=by simp[hlt]
          have hat:=spanN_at (p:=(· != 10)) hlt
          cases hp:((s[e].toNat:Int) != 10) with
          |true =>
           rw[hp,if_pos rfl]at hat
           repeat' ((conv=>whnf);first|with_reducible refine ixS _ rfl hye ?_|refine stp ?_|with_reducible apply Z01<;>intro h)
           conv=>whnf
           exact⟨e+1,⟨hlt,by omega,by omega⟩,by show s.length-(e+1)<s.length-e;omega,Y03 [0] rfl ⟨Y02 rfl,Y05 rfl rfl,Y02 rfl,Y01 rfl,trivial⟩ ⟨hbp,trivial⟩ rfl⟩
          |false =>
           rw[hp,if_neg (by decide)]at hat
           have h6:k+Z0j (· != 10) (s.drop k)=e:=by omega
           rw[h6]at h5
           repeat' ((conv=>whnf);first|with_reducible refine ixS _ rfl hye ?_|refine stp ?_|with_reducible apply Z01<;>intro h)
           conv=>whnf
           exact⟨(e,n,[]),⟨he,by show s.length<e+n;omega,h3.trans (by rw[h5]),by show List.length []<=e;omega⟩,by show s.length-e<s.length-k;omega,Y03 [0] rfl ⟨Y02 rfl,Y05 rfl rfl,Y02 rfl,Y01 rfl,trivial⟩ ⟨hbp,trivial⟩ rfl⟩
        · have f1:decide ((e:Int)<(s.length:Int))=false:=by simpa using hlt
          have hat:=spanN_end (p:=(· != 10)) hlt
          have h6:k+Z0j (· != 10) (s.drop k)=e:=by omega
          rw[h6]at h5
          repeat' ((conv=>whnf);(first|refine stp ?_|with_reducible apply Z01<;>intro h))
          conv=>whnf
          exact⟨(e,n,[]),⟨he,by show s.length<e+n;omega,h3.trans (by rw[h5]),by show List.length []<=e;omega⟩,by show s.length-e<s.length-k;omega,Y03 [0] rfl ⟨Y02 rfl,Y05 rfl rfl,Y02 rfl,Y01 rfl,trivial⟩ ⟨hbp,trivial⟩ rfl⟩
       |cons a acc =>
        dsimp only
        repeat' ((conv=>whnf);first|with_reducible refine ixS _ rfl hx ?_|with_reducible refine ixS _ rfl hx1 ?_|refine stp ?_|with_reducible apply Z01<;>intro h)
        conv=>whnf
        refine⟨Nat,(λe=>e<=s.length/\k<=e/\Z0j (· != 10) (s.drop k)=(e-k)+Z0j (· != 10) (s.drop e)),(λe=>[(0,.str s),(3,.ptr 0 0),(4,.slice 1 0 (a::acc).length (a::acc).length 4),(5,.int .i64 e)]),(λ_=>[⟨true,0,0,.cells [.int .i64 0,.int .i64 0] 29⟩,⟨true,1,0,.cells (Zcw (a::acc)) 38⟩]),(λe=>s.length-e),⟨k,⟨by omega,by omega,by omega⟩,Y03 [0,1] rfl ⟨Y02 rfl,Y05 rfl rfl,Y0c rfl rfl rfl (Y04 _) (Y04 _) rfl,Y01 rfl,trivial⟩ ⟨hbp,⟨rfl,rfl,rfl,rfl,Y0k (rest:=[]) (Y0h _).symm (Z4b _)⟩,trivial⟩ rfl⟩,?_⟩
        intro e ⟨he,hke,hsp⟩
        by_cases hlt:e<s.length
        · have f1:decide ((e:Int)<(s.length:Int))=true:=by simpa using hlt
          have hye:s[e]? = some s[e]:=by simp[hlt]
          have hat:=spanN_at (p:=(· != 10)) hlt
          cases hp:((s[e].toNat:Int) != 10) with
          |true =>
           rw[hp,if_pos rfl]at hat
           repeat' ((conv=>whnf);first|with_reducible refine ixS _ rfl hye ?_|refine stp ?_|with_reducible apply Z01<;>intro h)
           conv=>whnf
           exact⟨e+1,⟨hlt,by omega,by omega⟩,by show s.length-(e+1)<s.length-e;omega,Y03 [0,1] rfl ⟨Y02 rfl,Y05 rfl rfl,Y0c rfl rfl rfl (Y04 _) (Y04 _) rfl,Y01 rfl,trivial⟩ ⟨hbp,⟨rfl,rfl,rfl,rfl,Y0k (rest:=[]) (Y0h _).symm (Z4b _)⟩,trivial⟩ rfl⟩
          |false =>
           rw[hp,if_neg (by decide)]at hat
           have h6:k+Z0j (· != 10) (s.drop k)=e:=by omega
           rw[h6]at h5
           repeat' ((conv=>whnf);first|with_reducible refine ixS _ rfl hye ?_|refine stp ?_|with_reducible apply Z01<;>intro h)
           conv=>whnf
           exact⟨(e,n,(a::acc)),⟨he,by show s.length<e+n;omega,h3.trans (by rw[h5]),by show List.length (a::acc)<=e;omega⟩,by show s.length-e<s.length-k;omega,Y03 [0,1] rfl ⟨Y02 rfl,Y05 rfl rfl,Y0c rfl rfl rfl (Y04 _) (Y04 _) rfl,Y01 rfl,trivial⟩ ⟨hbp,⟨rfl,rfl,rfl,rfl,Y0k (rest:=[]) (Y0h _).symm (Z4b _)⟩,trivial⟩ rfl⟩
        · have f1:decide ((e:Int)<(s.length:Int))=false:=by simpa using hlt
          have hat:=spanN_end (p:=(· != 10)) hlt
          have h6:k+Z0j (· != 10) (s.drop k)=e:=by omega
          rw[h6]at h5
          repeat' ((conv=>whnf);(first|refine stp ?_|with_reducible apply Z01<;>intro h))
          conv=>whnf
          exact⟨(e,n,(a::acc)),⟨he,by show s.length<e+n;omega,h3.trans (by rw[h5]),by show List.length (a::acc)<=e;omega⟩,by show s.length-e<s.length-k;omega,Y03 [0,1] rfl ⟨Y02 rfl,Y05 rfl rfl,Y0c rfl rfl rfl (Y04 _) (Y04 _) rfl,Y01 rfl,trivial⟩ ⟨hbp,⟨rfl,rfl,rfl,rfl,Y0k (rest:=[]) (Y0h _).symm (Z4b _)⟩,trivial⟩ rfl⟩
      · have e2 : G8 31 [.str s, .int .i64 k] = some (oneR s k) := by
         show (if s.length<=65536/\k<s.length then some (oneR s k) else none)=_
         rw[if_pos ⟨hs,hk⟩]
        have hb21:Z0h Y00 31=true:=by kernel_rfl
        obtain⟨n,rfl⟩:∃m,n=m+1:=⟨n-1,by omega⟩
        have h5:=lexAt_tok (n:=n) hk hb hr
        cases htk:Z50 (s.drop k) with
        |none =>
         rw[htk]at h5
         have e3:oneR s k=noTok:=by unfold oneR;rw[htk]
         rw[e3]at e2
         have e9:Z6q s = .inl k:=by rw[h3,h5];rfl
         have eR:ZiZ s = .tuple [.nslice,.agg [.int .i64 4,.int .i64 k]]:=by unfold ZiZ;rw[if_neg (by omega),e9]
         rw[eR]
         clear h3 h5 htk e9 eR
         by_cases h47:s[k]=47
         · have q1:((s[k].toNat:Int)==47)=true:=by rw[h47];rfl
           by_cases hk1:k+1<s.length
           · have f2:decide (((k+1:Nat):Int)<(s.length:Int))=true:=by simp;omega
             have hx1:s[k+1]? = some s[k+1]:=by simp[hk1]
             have q2:((s[k+1].toNat:Int)==47)=false:=by
              refine beq_eq_false_iff_ne.2 λe=>hr ⟨h47,by rw[hx1];congr 1;apply UInt8.toNat_inj.1;simp;omega⟩
             cases acc with
             |nil =>
              dsimp only
              repeat' ((conv=>whnf);first|with_reducible refine ixS _ rfl hx ?_|with_reducible refine ixS _ rfl hx1 ?_|with_reducible refine exI (Z25 hb21 rfl e2) ?_|refine stp ?_|with_reducible apply Z01<;>intro h)
              rfl
             |cons a acc =>
              dsimp only
              repeat' ((conv=>whnf);first|with_reducible refine ixS _ rfl hx ?_|with_reducible refine ixS _ rfl hx1 ?_|with_reducible refine exI (Z25 hb21 rfl e2) ?_|refine stp ?_|with_reducible apply Z01<;>intro h)
              rfl
           · have f2:decide (((k+1:Nat):Int)<(s.length:Int))=false:=by simp;omega
             cases acc with
             |nil =>
              dsimp only
              repeat' ((conv=>whnf);first|with_reducible refine ixS _ rfl hx ?_|with_reducible refine exI (Z25 hb21 rfl e2) ?_|refine stp ?_|with_reducible apply Z01<;>intro h)
              rfl
             |cons a acc =>
              dsimp only
              repeat' ((conv=>whnf);first|with_reducible refine ixS _ rfl hx ?_|with_reducible refine exI (Z25 hb21 rfl e2) ?_|refine stp ?_|with_reducible apply Z01<;>intro h)
              rfl
         · have q1:((s[k].toNat:Int)==47)=false:=beq_eq_false_iff_ne.2 λe=>h47 (by apply UInt8.toNat_inj.1;simp;omega)
           cases acc with
           |nil =>
            dsimp only
            repeat' ((conv=>whnf);first|with_reducible refine ixS _ rfl hx ?_|with_reducible refine exI (Z25 hb21 rfl e2) ?_|refine stp ?_|with_reducible apply Z01<;>intro h)
            rfl
           |cons a acc =>
            dsimp only
            repeat' ((conv=>whnf);first|with_reducible refine ixS _ rfl hx ?_|with_reducible refine exI (Z25 hb21 rfl e2) ?_|refine stp ?_|with_reducible apply Z01<;>intro h)
            rfl
        |some tk =>
         obtain⟨kd,len,num⟩:=tk
         rw[htk]at h5
         have e3:oneR s k = .tuple [.agg [.int .i64 kd,.str ((s.drop k).take len),.int .i64 num,.int .i64 k],.bool true]:=by unfold oneR;rw[htk]
         rw[e3]at e2
         have hl:=Z7w htk
         rw[Y0j]at hl
         have tl:((s.drop k).take len).length=len:=by rw[Y0o,Y0j];omega
         have h6:Z6q s=Z95 (acc++[⟨kd,(s.drop k).take len,num,k⟩]) (lexAt n (k+len) s):=by rw[h3,h5];exact ZfH _ _ _
         clear h3 h5 htk
         by_cases h47:s[k]=47
         · have q1:((s[k].toNat:Int)==47)=true:=by rw[h47];rfl
           by_cases hk1:k+1<s.length
           · have f2:decide (((k+1:Nat):Int)<(s.length:Int))=true:=by simp;omega
             have hx1:s[k+1]? = some s[k+1]:=by simp[hk1]
             have q2:((s[k+1].toNat:Int)==47)=false:=by
              refine beq_eq_false_iff_ne.2 λe=>hr ⟨h47,by rw[hx1];congr 1;apply UInt8.toNat_inj.1;simp;omega⟩
             cases acc with
             |nil =>
              dsimp only
              repeat' ((conv=>whnf);first|with_reducible refine ixS _ rfl hx ?_|with_reducible refine ixS _ rfl hx1 ?_|with_reducible refine exI (Z25 hb21 rfl e2) ?_|refine stp ?_|with_reducible apply Z01<;>intro h)
              conv=>whnf
              exact⟨(k+len,n,[⟨kd,(s.drop k).take len,num,k⟩]),⟨by show k+len<=s.length;omega,by show s.length<k+len+n;omega,h6,by show 1<=k+len;omega⟩,by show s.length-(k+len)<s.length-k;omega,Y03 [0,3] rfl ⟨Y02 rfl,Y05 rfl rfl,Y0c rfl rfl rfl (Y04 _) (Y04 _) rfl,Y01 (by rw[tl]),trivial⟩ ⟨hbp,hbp,trivial⟩ rfl⟩
             |cons a acc =>
              dsimp only
              repeat' ((conv=>whnf);first|with_reducible refine ixS _ rfl hx ?_|with_reducible refine ixS _ rfl hx1 ?_|with_reducible refine exI (Z25 hb21 rfl e2) ?_|refine stp ?_|with_reducible apply Z01<;>intro h)
              conv=>whnf
              refine exI (Zc0 aT (xs:=[.int .i64 kd,.str ((s.drop k).take len),.int .i64 num,.int .i64 k]) rfl rfl rfl (Z3J _) rfl (by decide) ⟨by simp at h4⊢;omega,by simp at h4⊢;omega⟩) ?_
              repeat' ((conv=>whnf);(first|refine stp ?_|with_reducible apply Z01<;>intro h))
              conv=>whnf
              refine⟨(k+len,n,(a::acc)++[⟨kd,(s.drop k).take len,num,k⟩]),⟨by show k+len<=s.length;omega,by show s.length<k+len+n;omega,h6,by show ((a::acc)++[_]).length<=k+len;rw[Z2X];omega⟩,by show s.length-(k+len)<s.length-k;omega,Y03 [0,4] rfl ?_ ?_ rfl⟩
              · refine⟨Y02 rfl,Y05 rfl rfl,Y0c rfl rfl ?_ ?_ ?_ rfl,Y01 ?_,trivial⟩
                ·exact (Z2X (a::acc) _).symm
                ·exact Y04 _
                ·exact Nat.le_of_eq (Z2X (a::acc) _)
                ·rw[tl]
              ·exact⟨hbp,⟨rfl,rfl,rfl,rfl,Y0k (rest:=[]) ((Z1k (a::acc) ⟨kd,(s.drop k).take len,num,k⟩).symm.trans (Y0h _).symm) (Z4b _)⟩,trivial⟩
           · have f2:decide (((k+1:Nat):Int)<(s.length:Int))=false:=by simp;omega
             cases acc with
             |nil =>
              dsimp only
              repeat' ((conv=>whnf);first|with_reducible refine ixS _ rfl hx ?_|with_reducible refine exI (Z25 hb21 rfl e2) ?_|refine stp ?_|with_reducible apply Z01<;>intro h)
              conv=>whnf
              exact⟨(k+len,n,[⟨kd,(s.drop k).take len,num,k⟩]),⟨by show k+len<=s.length;omega,by show s.length<k+len+n;omega,h6,by show 1<=k+len;omega⟩,by show s.length-(k+len)<s.length-k;omega,Y03 [0,3] rfl ⟨Y02 rfl,Y05 rfl rfl,Y0c rfl rfl rfl (Y04 _) (Y04 _) rfl,Y01 (by rw[tl]),trivial⟩ ⟨hbp,hbp,trivial⟩ rfl⟩
             |cons a acc =>
              dsimp only
              repeat' ((conv=>whnf);first|with_reducible refine ixS _ rfl hx ?_|with_reducible refine exI (Z25 hb21 rfl e2) ?_|refine stp ?_|with_reducible apply Z01<;>intro h)
              conv=>whnf
              refine exI (Zc0 aT (xs:=[.int .i64 kd,.str ((s.drop k).take len),.int .i64 num,.int .i64 k]) rfl rfl rfl (Z3J _) rfl (by decide) ⟨by simp at h4⊢;omega,by simp at h4⊢;omega⟩) ?_
              repeat' ((conv=>whnf);(first|refine stp ?_|with_reducible apply Z01<;>intro h))
              conv=>whnf
              refine⟨(k+len,n,(a::acc)++[⟨kd,(s.drop k).take len,num,k⟩]),⟨by show k+len<=s.length;omega,by show s.length<k+len+n;omega,h6,by show ((a::acc)++[_]).length<=k+len;rw[Z2X];omega⟩,by show s.length-(k+len)<s.length-k;omega,Y03 [0,4] rfl ?_ ?_ rfl⟩
              · refine⟨Y02 rfl,Y05 rfl rfl,Y0c rfl rfl ?_ ?_ ?_ rfl,Y01 ?_,trivial⟩
                ·exact (Z2X (a::acc) _).symm
                ·exact Y04 _
                ·exact Nat.le_of_eq (Z2X (a::acc) _)
                ·rw[tl]
              ·exact⟨hbp,⟨rfl,rfl,rfl,rfl,Y0k (rest:=[]) ((Z1k (a::acc) ⟨kd,(s.drop k).take len,num,k⟩).symm.trans (Y0h _).symm) (Z4b _)⟩,trivial⟩
         · have q1:((s[k].toNat:Int)==47)=false:=beq_eq_false_iff_ne.2 λe=>h47 (by apply UInt8.toNat_inj.1;simp;omega)
           cases acc with
           |nil =>
            dsimp only
            repeat' ((conv=>whnf);first|with_reducible refine ixS _ rfl hx ?_|with_reducible refine exI (Z25 hb21 rfl e2) ?_|refine stp ?_|with_reducible apply Z01<;>intro h)
            conv=>whnf
            exact⟨(k+len,n,[⟨kd,(s.drop k).take len,num,k⟩]),⟨by show k+len<=s.length;omega,by show s.length<k+len+n;omega,h6,by show 1<=k+len;omega⟩,by show s.length-(k+len)<s.length-k;omega,Y03 [0,3] rfl ⟨Y02 rfl,Y05 rfl rfl,Y0c rfl rfl rfl (Y04 _) (Y04 _) rfl,Y01 (by rw[tl]),trivial⟩ ⟨hbp,hbp,trivial⟩ rfl⟩
           |cons a acc =>
            dsimp only
            repeat' ((conv=>whnf);first|with_reducible refine ixS _ rfl hx ?_|with_reducible refine exI (Z25 hb21 rfl e2) ?_|refine stp ?_|with_reducible apply Z01<;>intro h)
            conv=>whnf
            refine exI (Zc0 aT (xs:=[.int .i64 kd,.str ((s.drop k).take len),.int .i64 num,.int .i64 k]) rfl rfl rfl (Z3J _) rfl (by decide) ⟨by simp at h4⊢;omega,by simp at h4⊢;omega⟩) ?_
            repeat' ((conv=>whnf);(first|refine stp ?_|with_reducible apply Z01<;>intro h))
            conv=>whnf
            refine⟨(k+len,n,(a::acc)++[⟨kd,(s.drop k).take len,num,k⟩]),⟨by show k+len<=s.length;omega,by show s.length<k+len+n;omega,h6,by show ((a::acc)++[_]).length<=k+len;rw[Z2X];omega⟩,by show s.length-(k+len)<s.length-k;omega,Y03 [0,4] rfl ?_ ?_ rfl⟩
            · refine⟨Y02 rfl,Y05 rfl rfl,Y0c rfl rfl ?_ ?_ ?_ rfl,Y01 ?_,trivial⟩
              ·exact (Z2X (a::acc) _).symm
              ·exact Y04 _
              ·exact Nat.le_of_eq (Z2X (a::acc) _)
              ·rw[tl]
            ·exact⟨hbp,⟨rfl,rfl,rfl,rfl,Y0k (rest:=[]) ((Z1k (a::acc) ⟨kd,(s.drop k).take len,num,k⟩).symm.trans (Y0h _).symm) (Z4b _)⟩,trivial⟩
   · have e1:decide ((k:Int)<(s.length:Int))=false:=by simpa using hk
     have e9:Z6q s = .inr acc:=by
      obtain⟨n,rfl⟩:∃m,n=m+1:=⟨n-1,by omega⟩
      rw[h3,lexAt_end (by omega)];simp[Z95]
     cases acc with
     |nil =>
      dsimp only
      repeat' ((conv=>whnf);first|refine stp ?_|with_reducible apply Z01<;>intro h)
      unfold ZiZ;rw[if_neg (by omega),e9];rfl
     |cons a acc =>
      dsimp only
      repeat' ((conv=>whnf);(first|refine stp ?_|with_reducible apply Z01<;>intro h))
      conv=>whnf
      refine exI (Zc0 aT (xs:=[.int .i64 5,.str [],.int .i64 0,.int .i64 s.length]) rfl rfl rfl (Z3J _) rfl (by decide) ⟨by simp at h4⊢;omega,by simp at h4⊢;omega⟩) ?_
      repeat' ((conv=>whnf);(first|refine stp ?_|with_reducible apply Z01<;>intro h))
      conv=>whnf
      refine⟨.tuple [.rs (acc.length+1+1) 4 (Zcw (a::acc)++Tk.cells ⟨5,[],0,s.length⟩),.agg [.int .i64 0,.int .i64 0]],Zmc (ZhD (b:=3) rfl ?_ ?_) (Zk1 rfl),?_⟩
      ·exact (congrArg List.length (Z1k (a::acc) ⟨5,[],0,s.length⟩)).symm.trans ((Z3J _).trans (by simp))
      ·exact (congrArg (List.all · lit) (Z1k (a::acc) ⟨5,[],0,s.length⟩)).symm.trans (ZdR _)
      · show _=ZiZ s
        unfold ZiZ;rw[if_neg (by omega),e9,<- Z1k];rfl
end
section
theorem ends32:Ends 32:=⟨by decide,by decide,by decide,by decide,by decide⟩
end
section
theorem deepTL_take:∀(t:List (List St))(i:Nat)(h:i<t.length),Z3x (t.take (i+1))=max (Z3x (t.take i)) (deepSL t[i])
 |e::l,0,h=>by simp only[Y09,Y0e,Z3x,Y0m];omega
 |e::l,i+1,h=>by
  have:=deepTL_take l i (by simpa using h)
  simp only[Y09,Z3x,Y0n]at this⊢;omega
end
section
variable {gl:Z0g}
theorem deepsR_ok:∀(n:Nat)(l:List St),sizeSL l<=n->sizeSL l<=1048576->ValOK Y00 gl 72 [stA l] (.int .i64 (deepSL l))
 |n,l,h,hb=>by
  obtain⟨O,hO,p1,p2,-⟩:=fams (P:=Y00) (gl:=gl) [ZnZ (g:=72) (by kernel_rfl) (λx=>.int .i64 (deepSL x)) (λx=>sizeSL x<n/\sizeSL x<=1048576) (λx hx=>match n,hx with|n+1,hx=>deepsR_ok n x (by omega) hx.2),
   famX (g:=96) (by kernel_rfl) (λk=>.int .i64 (ZmB k)) (λk=>Z1x k<=1048576) (λk hk=>deepR_ok _ k (Y04 _) hk)] rfl
  have q1:∀x,sizeSL x<n/\sizeSL x<=1048576->∀H,Z05 Y00 O H 72 [stA x]=some (.int .i64 (deepSL x),H):=p1
  have q2:∀k,Z1x k<=1048576->∀H,Z05 Y00 O H 96 [.agg k.cells]=some (.int .i64 (ZmB k),H):=p2
  clear p1 p2
  have hlen:=Z9h l
  have hds:=deepSL_size l
  simp only[stA]at q1⊢
  refine Z0B follows Z06 hO Tryz.func72 rfl ?_
  repeat' ((conv=>whnf);first|refine stp ?_|with_reducible apply Z01<;>intro h)
  conv=>whnf
  refine⟨Nat,(λi=>i<=l.length),(λi=>[(0,.rs l.length 7 (stC l)),(3,.int .i64 (deepSL (l.take i):Nat)),(4,.int .i64 i)]),(λ_=>[]),(λi=>l.length-i),⟨0,Y06 _,Y08 rfl ?_⟩,?_⟩
  ·simp only[Y0e,deepSL];exact wks
  intro i hi
  dsimp only
  by_cases hlt:i<l.length
  · have e1:decide ((i:Int)<(l.length:Int))=true:=by simpa using hlt
    have hs:=deepSL_take l i hlt
    have hle:=deepSL_le l i
    have hsz:=Z6x _ _ (Z1g hlt)
    have hse:=Z7B l[i]
    have hde:=deepS_eq l[i]
    have hx4:tk 1 (((stC l).drop (i*7)).drop 4)=some [exA l[i].exprs]:=by rw[Z5N l i hlt];exact Zl4 _ _
    have hx5:tk 1 (((stC l).drop (i*7)).drop 5)=some [stA l[i].thn]:=by rw[Z5N l i hlt];exact Zl5 _ _
    have hx6:tk 1 (((stC l).drop (i*7)).drop 6)=some [stA l[i].els]:=by rw[Z5N l i hlt];exact Zl6 _ _
    have qt:=q1 l[i].thn ⟨by omega,by omega⟩
    have qe:=q1 l[i].els ⟨by omega,by omega⟩
    generalize l[i]=x at *
    simp only[exA,stA]at hx4 hx5 hx6
    have hxl:=Z8b x.exprs
    have h1:=deepSL_size x.thn
    have h2:=deepSL_size x.els
    have h3:=deepL_size x.exprs
    generalize hT:deepSL x.thn=zt at *
    generalize hE:deepSL x.els=ze at *
    repeat' ((conv=>whnf);first|refine exI hx4 ?_|refine exI hx5 ?_|refine exI hx6 ?_|refine exI (qt _) ?_|refine exI (qe _) ?_|(with_reducible refine ixJ i rfl ?_ ?_;focus omega)|refine stp ?_|with_reducible apply Z01<;>intro h)
    conv=>whnf
    refine⟨Nat,(λk=>k<=x.exprs.length),(λk=>[(0,.rs l.length 7 (stC l)),(3,.int .i64 (deepSL (l.take i):Nat)),(4,.int .i64 i),(5,.int .i64 (max (max zt ze) (deepL (x.exprs.take k)):Nat)),(6,.int .i64 k)]),(λ_=>[]),(λk=>x.exprs.length-k),⟨0,Y06 _,Y08 rfl ?_⟩,?_⟩
    · refine Y07 (Y02 rfl) ?_
      refine Y07 (Y02 rfl) ?_
      refine Y07 (Y02 rfl) ?_
      refine Y07 (Y01 ?_) ?_
      ·simp only[Y0e,deepL];first|omega|(split<;>omega)
      exact⟨Y01 rfl,trivial⟩
    intro k hk
    dsimp only
    by_cases hkt:k<x.exprs.length
    · have e2:decide ((k:Int)<(x.exprs.length:Int))=true:=by simpa using hkt
      have hy:=ex4 x.exprs k hkt
      have ht:=deepL_take x.exprs k hkt
      have hmk:=Z3n _ _ (Z1g hkt)
      have qk:=q2 x.exprs[k] (by omega)
      generalize x.exprs[k]=y at *
      repeat' ((conv=>whnf);first|refine exI hx4 ?_|refine exI hy ?_|refine exI (qk _) ?_|(with_reducible refine ixJ i rfl ?_ ?_;focus omega)|(with_reducible refine ixJ k rfl ?_ ?_;focus omega)|refine stp ?_|with_reducible apply Z01<;>intro h)
      conv=>whnf
      refine⟨k+1,hkt,by show x.exprs.length-(k+1)<x.exprs.length-k;omega,Y08 rfl ?_⟩
      refine Y07 (Y02 rfl) ?_
      refine Y07 (Y02 rfl) ?_
      refine Y07 (Y02 rfl) ?_
      refine Y07 (Y01 ?_) ?_
      ·rw[ht];first|omega|(split<;>omega)
      exact⟨Y01 rfl,trivial⟩
    · have e2:decide ((k:Int)<(x.exprs.length:Int))=false:=by simpa using hkt
      have hk2:k=x.exprs.length:=by have:=hk;omega
      subst hk2
      rw[Y0a]
      repeat' ((conv=>whnf);first|refine exI hx4 ?_|(with_reducible refine ixJ i rfl ?_ ?_;focus omega)|refine stp ?_|with_reducible apply Z01<;>intro h)
      conv=>whnf
      refine⟨i+1,hlt,by show l.length-(i+1)<l.length-i;omega,Y08 rfl ?_⟩
      refine Y07 (Y02 rfl) ?_
      refine Y07 (Y01 ?_) ?_
      ·rw[hs,hde];first|omega|(split<;>omega)
      exact⟨Y01 rfl,trivial⟩
  · have e1:decide ((i:Int)<(l.length:Int))=false:=by simpa using hlt
    have hi2:i=l.length:=by have:=hi;omega
    subst hi2
    rw[Y0a]
    repeat' ((conv=>whnf);first|refine stp ?_|with_reducible apply Z01<;>intro h)
    all_goals rfl
end
section
set_option maxHeartbeats 8000000
variable {gl:Z0g}
def partsV(k:Int):AV:=.tuple [.agg [.bool (Zn5 k),.bool (Zon k),.bool (ZnH k),.int .i64 (hX k),.bool (hT k),.bool (ZoQ k)],.bool (isK k)]
theorem parts_ok(k:Int):ValOK Y00 gl 74 [.int .i64 k] (partsV k):=by
 by_cases hk:1<=k/\k<=11
 · have hop:k=1\/k=2\/k=3\/k=4\/k=5\/k=6\/k=7\/k=8\/k=9\/k=10\/k=11:=by omega
   rcases hop with rfl|rfl|rfl|rfl|rfl|rfl|rfl|rfl|rfl|rfl|rfl
   all_goals (refine Z0B follows Z06 Z0u Tryz.func74 rfl ?_)
   all_goals (repeat' ((conv=>whnf);first|refine stp ?_|with_reducible apply Z01<;>intro h))
   all_goals rfl
 · have e : partsV k = .tuple [.agg [.bool false, .bool false, .bool false, .int .i64 0, .bool false, .bool false], .bool false] := by
    have h1:isK k=false:=by unfold isK;simpa using λh=>by omega
    simp only[partsV,hX,hT,h1,Bool.false_and,Bool.false_eq_true,if_false]
    unfold Zn5 Zon ZnH ZoQ
    have:(k==1)=false/\(k==2)=false/\(k==4)=false/\(k==5)=false/\(k==6)=false/\(k==10)=false:=by simp only[beq_eq_false_iff_ne];omega
    obtain⟨a,b,c,d,e,f⟩:=this
    simp only[a,b,c,d,e,f,Bool.false_or]
    have g1:decide (2<=k/\k<=6)=false:=by simpa using λh=>by omega
    have g2:decide (2<=k/\k<=7)=false:=by simpa using λh=>by omega
    rw[g1,g2]
   rw[e]
   have n1:(k==1)=false:=by simp only[beq_eq_false_iff_ne];omega
   have n2:(k==2)=false:=by simp only[beq_eq_false_iff_ne];omega
   have n3:(k==3)=false:=by simp only[beq_eq_false_iff_ne];omega
   have n4:(k==4)=false:=by simp only[beq_eq_false_iff_ne];omega
   have n5:(k==5)=false:=by simp only[beq_eq_false_iff_ne];omega
   have n6:(k==6)=false:=by simp only[beq_eq_false_iff_ne];omega
   have n7:(k==7)=false:=by simp only[beq_eq_false_iff_ne];omega
   have n8:(k==8)=false:=by simp only[beq_eq_false_iff_ne];omega
   have n9:(k==9)=false:=by simp only[beq_eq_false_iff_ne];omega
   have n10:(k==10)=false:=by simp only[beq_eq_false_iff_ne];omega
   have n11:(k==11)=false:=by simp only[beq_eq_false_iff_ne];omega
   refine Z0B follows Z06 Z0u Tryz.func74 rfl ?_
   repeat' ((conv=>whnf);first|(with_reducible refine Zp6 ?_ ?_;(focus (assumption)))|refine stp ?_|with_reducible apply Z01<;>intro h)
   all_goals rfl
def ownD(n lo o t e is:Bool)(x:Int)(name loc:List UInt8)(order:Int)(nx nt ne:Nat):Bool :=
 is&&((n==Z38 name)&&((n || name==[])&&((lo==Z38 loc)&&((lo || loc==[])&&(decide ((nx:Int)=x)&&((t || decide (nt=0))&&((e || decide (ne=0))&&(if o then decide (1<=order/\order<=6) else order==0))))))))
theorem isW_eq(m:Bool)(s:List UInt8):isW m s=((m==Z38 s)&&(m || s==[])):=by
 unfold isW
 cases m with
 |true=>simp
 |false =>
  by_cases h:s=[]
  ·subst h;rfl
  ·simp[h]
theorem ownD_eq(k:Int)(name loc:List UInt8)(order:Int)(nx nt ne:Nat):ownD (Zn5 k) (Zon k) (ZnH k) (hT k) (ZoQ k) (isK k) (hX k) name loc order nx nt ne=Z92 k name loc order nx nt ne:=by
 unfold ownD Z92
 rw[isW_eq,isW_eq]
 cases hk:isK k with
 |false=>unfold isK at hk;rw[hk];simp
 |true =>
  have h2:decide (1<=k/\k<=11)=true:=hk
  have h3:decide ((nx:Int)=(ZnG k:Int))=decide (nx=ZnG k):=by rw[decide_eq_decide];omega
  simp only[h2,hX,hT,hk,if_true,Y0d,h3]
  rw[Bool.eq_iff_iff]
  simp only[Y0b]
  constructor
  ·rintro⟨a,b,c,d,e,f,g,h⟩;exact⟨⟨a,b⟩,⟨c,d⟩,h,e,f,g⟩
  ·rintro⟨⟨a,b⟩,⟨c,d⟩,h,e,f,g⟩;exact⟨a,b,c,d,e,f,g,h⟩
theorem rightSL_take:∀(l:List St)(i:Nat)(h:i<l.length),rightSL (l.take (i+1))=(rightSL (l.take i)&&Z8g l[i])
 |e::l,0,h=>by simp only[Y09,Y0e,rightSL,Y0m,Y0q,Y0d]
 |e::l,i+1,h=>by
  have:=rightSL_take l i (by simpa using h)
  simp only[Y09,rightSL,Y0n]at this⊢;rw[this,Bool.and_assoc]
theorem rightSL_get:∀{l:List St}{i:Nat}(h:i<l.length),Z8g l[i]=false->rightSL l=false
 |e::l,0,h,h2=>by simp only[Y0m]at h2;simp only[rightSL,h2,Bool.false_and]
 |e::l,i+1,h,h2=>by simp only[Y0n]at h2;simp only[rightSL,rightSL_get (l:=l) (by simpa using h) h2,Y0t]
end
section
set_option maxHeartbeats 8000000
variable {gl:Z0g}
theorem rights_ok:∀(n:Nat)(l:List St),sizeSL l<=n->okSL l->sizeSL l<=1048576->ValOK Y00 gl 34 [stA l] (.bool (rightSL l))
 |n,l,h,hok,hb=>by
  obtain⟨O,hO,p1,p2,p3,p4,-⟩:=fams (P:=Y00) (gl:=gl) [ZnZ (g:=34) (by kernel_rfl) (λx=>.bool (rightSL x)) (λx=>sizeSL x<n/\okSL x/\sizeSL x<=1048576) (λx hx=>match n,hx with|n+1,hx=>rights_ok n x (by omega) hx.2.1 hx.2.2),
   famX (g:=75) (by kernel_rfl) (λk=>.bool (Z5R k)) okE (λk hk=>right_ok _ k (Y04 _) hk),
   { I:=Int,f:=74,G:=λ_=>True,A:=λk=>[.int .i64 k],R:=partsV,body:=(by kernel_rfl),inj:=(λi j _ _ h=>by simp only[List.cons.injEq,AV.int.injEq,true_and,and_true]at h;rw[h]),ok:=(λk _=>⟨rfl,parts_ok k⟩) },
   { I:=List UInt8,f:=33,G:=λs=>s.length<=9223372036854775807,A:=λs=>[.str s],R:=λs=>.bool (Z38 s),body:=(by kernel_rfl),inj:=(λi j _ _ h=>by simp only[List.cons.injEq,AV.str.injEq,and_true]at h;rw[h]),ok:=(λs hs=>⟨rfl,wordRef_ok s hs⟩) }] rfl
  have q1:∀x,sizeSL x<n/\okSL x/\sizeSL x<=1048576->∀H,Z05 Y00 O H 34 [stA x]=some (.bool (rightSL x),H):=p1
  have q2:∀k,okE k->∀H,Z05 Y00 O H 75 [.agg k.cells]=some (.bool (Z5R k),H):=p2
  have q3:∀k H,Z05 Y00 O H 74 [.int .i64 k]=some (partsV k,H):=λk=>p3 k trivial
  have q4:∀s,s.length<=9223372036854775807->∀H,Z05 Y00 O H 33 [.str s]=some (.bool (Z38 s),H):=p4
  clear p1 p2 p3 p4
  have hlen:=Z9h l
  simp only[stA]at q1⊢
  refine Z0B follows Z06 hO Tryz.func34 rfl ?_
  repeat' ((conv=>whnf);first|refine stp ?_|with_reducible apply Z01<;>intro h)
  conv=>whnf
  refine⟨Nat,(λi=>i<=l.length/\rightSL (l.take i)=true),(λi=>[(0,.rs l.length 7 (stC l)),(3,.int .i64 i)]),(λ_=>[]),(λi=>l.length-i),⟨0,⟨Y06 _,by simp only[Y0e,rightSL]⟩,Y08 rfl ?_⟩,?_⟩
  ·exact wks
  rintro i ⟨hi,hall⟩
  dsimp only
  by_cases hlt:i<l.length
  · have e1:decide ((i:Int)<(l.length:Int))=true:=by simpa using hlt
    have hg:=Z6y l i hlt
    have hse:=Z7B l[i]
    have hat:=rightSL_take l i hlt
    have hfalse:Z8g l[i]=false->rightSL l=false:=rightSL_get hlt
    have hx:=st7 l i hlt
    obtain⟨k1,k2,k3,k4,k5,k6,k7,k8⟩:=Z8m (Z7J hok _ (Z1g hlt))
    have qt:=q1 l[i].thn ⟨by omega,k7,by omega⟩
    have qe:=q1 l[i].els ⟨by omega,k8,by omega⟩
    have hr:=rightS_eq l[i]
    have ho:Zno l[i]=ownD (Zn5 l[i].kind) (Zon l[i].kind) (ZnH l[i].kind) (hT l[i].kind) (ZoQ l[i].kind) (isK l[i].kind) (hX l[i].kind) l[i].name l[i].loc l[i].order l[i].exprs.length l[i].thn.length l[i].els.length:=by
     rw[ownD_eq];rfl
    rw[hall,Y0d]at hat
    have hxs:=Z8b l[i].exprs
    have hbx:sizeL l[i].exprs<=1048576:=by omega
    generalize l[i]=x at *
    obtain⟨kind,name,loc,order,exprs,thn,els⟩:=x
    simp only[St.kind,St.name,St.loc,St.order,St.exprs,St.thn,St.els,St.cells,exA]at *
    have qn:=q4 name k1
    have ql:=q4 loc k2
    have qp:=q3 kind
    simp only[partsV]at qp
    clear q1 q3 q4 hse hg
    obtain⟨w1,hw1⟩:∃w,Z38 name=w:=⟨_,rfl⟩
    obtain⟨w2,hw2⟩:∃w,Z38 loc=w:=⟨_,rfl⟩
    rw[hw1]at qn
    rw[hw2]at ql
    cases hk:isK kind with
    |false =>
     have ho2:Zno (.mk kind name loc order exprs thn els)=false:=by rw[ho];simp[ownD,hk]
     rw[hfalse (by rw[hr,ho2];rfl)]
     rw[hk]at qp
     clear hr ho hat hfalse
     repeat' ((conv=>whnf);first|refine exI hx ?_|refine exI (qp _) ?_|(with_reducible refine ixJ i rfl ?_ ?_;focus omega)|refine stp ?_|with_reducible apply Z01<;>intro h)
     all_goals rfl
    |true =>
     have hop:kind=1\/kind=2\/kind=3\/kind=4\/kind=5\/kind=6\/kind=7\/kind=8\/kind=9\/kind=10\/kind=11:=by
      unfold isK at hk;simp only[decide_eq_true_eq]at hk;omega
     rw[hk]at qp ho
     clear hk
     simp only[ownD,hw1,hw2,Y0d]at ho
     cases hown:((Zn5 kind==w1)&&((Zn5 kind || name==[])&&((Zon kind==w2)&&((Zon kind || loc==[])&&(decide ((exprs.length:Int)=hX kind)&&((hT kind || decide (thn.length=0))&&((ZoQ kind || decide (els.length=0))&&(if ZnH kind then decide (1<=order/\order<=6) else order==0)))))))) with
     |false =>
      rw[hown]at ho
      rw[hfalse (by rw[hr,ho];rfl)]
      clear hr ho hat hfalse hw1 hw2
      rcases hop with rfl|rfl|rfl|rfl|rfl|rfl|rfl|rfl|rfl|rfl|rfl
      all_goals (as_aux_lemma=>(
       repeat' ((conv=>whnf);first|with_reducible refine exI (qp _) ?_|with_reducible refine exI (qn _) ?_|with_reducible refine exI (ql _) ?_|(with_reducible refine ixJ i rfl ?_ ?_;focus omega)|refine exI hx ?_|refine stp ?_|with_reducible apply Z01<;>intro h)
       all_goals (first|rfl|(exfalso;clear qp qn ql qt qe q2 hO hx;simp_all[Zn5,Zon,ZnH,hX,ZnG,hT,Zom,ZoQ,isK];done)|(exfalso;clear qp qn ql qt qe q2 hO hx;simp_all[Zn5,Zon,ZnH,hX,ZnG,hT,Zom,ZoQ,isK];omega))))
     |true =>
      rw[hown]at ho
      rw[ho,Y0d]at hr
      simp only[Y0b,beq_iff_eq,Bool.or_eq_true,decide_eq_true_eq]at hown
      obtain⟨f1,f2,f3,f4,f5,f6,f7,f8⟩:=hown
      have g5:((exprs.length:Int) != hX kind)=false:=by rw[f5];simp
      have g6:hT kind=false->decide ((thn.length:Int)>0)=false:=λh=>by rw[h]at f6;simpa using f6
      have g7:ZoQ kind=false->decide ((els.length:Int)>0)=false:=λh=>by rw[h]at f7;simpa using f7
      have g8:ZnH kind=true->decide (order<1)=false/\decide (order>6)=false:=λh=>by rw[h]at f8;simp at f8⊢;omega
      have g9:ZnH kind=false->(order != 0)=false:=λh=>by rw[h]at f8;simpa using f8
      have f2':Zn5 kind=false->name=[]:=λh=>by rw[h]at f2;simpa using f2
      have f4':Zon kind=false->loc=[]:=λh=>by rw[h]at f4;simpa using f4
      subst f1;subst f3
      have hle:=Z8b exprs
      have hf2:=hfalse
      clear f2 f4 f5 f6 f7 f8 hw1 hw2 ho hfalse
      rcases hop with rfl|rfl|rfl|rfl|rfl|rfl|rfl|rfl|rfl|rfl|rfl
      all_goals (try (obtain rfl:=f2' rfl))
      all_goals (try (obtain rfl:=f4' rfl))
      all_goals (try (replace g6:=g6 rfl))
      all_goals (try (replace g7:=g7 rfl))
      all_goals (try (obtain⟨g81,g82⟩:=g8 rfl))
      all_goals (try (replace g9:=g9 rfl))
      all_goals (generalize rightSL thn=rt at *;generalize rightSL els=re at *)
      all_goals (as_aux_lemma=>(
       repeat' ((conv=>whnf);first|with_reducible refine exI (qp _) ?_|with_reducible refine exI (qn _) ?_|with_reducible refine exI (ql _) ?_|with_reducible refine exI (qt _) ?_|with_reducible refine exI (qe _) ?_|(with_reducible refine ixJ i rfl ?_ ?_;focus omega)|refine exI hx ?_|refine stp ?_|with_reducible apply Z01<;>intro h)
       all_goals (first|(rw[hf2 (by rw[hr,show rt=false from by simpa using ‹(!rt)=true›];simp)];rfl)|(rw[hf2 (by rw[hr,show re=false from by simpa using ‹(!re)=true›];simp)];rfl)|skip)
       all_goals (rw[show rt=true from by simpa using ‹(!rt)=false›,show re=true from by simpa using ‹(!re)=false›,Y0q,Y0q]at hr)
       all_goals (conv=>whnf)
       all_goals (refine⟨Nat,(λk=>k<=exprs.length/\rightL (exprs.take k)=true),(λk=>[(0,.rs l.length 7 (stC l)),(3,.int .i64 i),(4,.ptr 0 0),(7,.int .i64 k)]),(λ_=>[⟨true,0,0,.cells [.int .i64 _,.str _,.str _,.int .i64 order,.rs exprs.length 4 (exC exprs),.rs thn.length 7 (stC thn),.rs els.length 7 (stC els)] 58⟩]),(λk=>exprs.length-k),⟨0,⟨Y06 _,by simp only[Y0e,rightL]⟩,Y03 [0] rfl ?_ ⟨hbp,trivial⟩ rfl⟩,?_⟩)
       all_goals (first|((repeat (first|exact trivial|refine stw ?_));done)|skip)
       all_goals (
        rintro k ⟨hk,hkall⟩
        dsimp only
        by_cases hkt:k<exprs.length
        · have e2:decide ((k:Int)<(exprs.length:Int))=true:=by simpa using hkt
          have hy:=ex4 exprs k hkt
          have htk:=rightL_take exprs k hkt
          have hgf:=λh=>rightL_get (l:=exprs) hkt h
          rw[hkall,Y0d]at htk
          have qk:=q2 exprs[k] (Z8n k6 _ (Z1g hkt))
          cases hrk:Z5R exprs[k] with
          |true =>
           rw[hrk]at qk htk
           generalize exprs[k]=y at *
           repeat' ((conv=>whnf);first|with_reducible refine exI (qk _) ?_|(with_reducible refine ixJ k rfl ?_ ?_;focus omega)|refine exI hy ?_|refine stp ?_|with_reducible apply Z01<;>intro h)
           conv=>whnf
           refine⟨k+1,⟨hkt,htk⟩,by show exprs.length-(k+1)<exprs.length-k;omega,Y03 [0] rfl ?_ ⟨hbp,trivial⟩ rfl⟩
           exact wks
          |false =>
           have hfx:=hgf hrk
           rw[hrk]at qk
           rw[hf2 (by rw[hr,hfx])]
           generalize exprs[k]=y at *
           repeat' ((conv=>whnf);first|with_reducible refine exI (qk _) ?_|(with_reducible refine ixJ k rfl ?_ ?_;focus omega)|refine exI hy ?_|refine stp ?_|with_reducible apply Z01<;>intro h)
           all_goals rfl
        · have e2:decide ((k:Int)<(exprs.length:Int))=false:=by simpa using hkt
          have hk2:k=exprs.length:=by have:=hk;omega
          subst hk2
          rw[Y0a]at hkall
          rw[hkall]at hr
          repeat' ((conv=>whnf);first|(with_reducible refine ixJ i rfl ?_ ?_;focus omega)|refine stp ?_|with_reducible apply Z01<;>intro h)
          conv=>whnf
          refine⟨i+1,⟨hlt,by rw[hat,hr]⟩,by show l.length-(i+1)<l.length-i;omega,Y08 rfl ?_⟩
          exact wks)))
  · have e1:decide ((i:Int)<(l.length:Int))=false:=by simpa using hlt
    have hi2:i=l.length:=by have:=hi;omega
    subst hi2
    rw[Y0a]at hall
    rw[hall]
    repeat' ((conv=>whnf);first|refine stp ?_|with_reducible apply Z01<;>intro h)
    all_goals rfl
end
section
variable {gl:Z0g}
theorem deepTL_size:∀(t:List (List St)),Z3x t<=Z0v t
 |[]=>Y04 _
 |e::t=>by have:=deepSL_size e;have:=deepTL_size t;simp only[Z3x,Z0v];omega
theorem deepPR_ok(p:Pr)(hl:p.threads.length<=9223372036854775807)(hs:Z0v p.threads<=1048576):ValOK Y00 gl 32 [p.av] (.int .i64 (Z3x p.threads)):=by
 obtain⟨ds,ts⟩:=p
 simp only[Pr.av]at *
 obtain⟨O,hO,p1,-⟩:=fams (P:=Y00) (gl:=gl) [Zp1 (g:=72) (by kernel_rfl) (λx=>.int .i64 (deepSL x)) ts (λx hx=>deepsR_ok _ x (Y04 _) (by have:=Z6w _ _ hx;omega))] rfl
 have q1:∀x∈ts,∀H,Z05 Y00 O H 72 [stA x]=some (.int .i64 (deepSL x),H):=p1
 clear p1
 refine Z0B follows Z06 hO Tryz.func32 rfl ?_
 repeat' ((conv=>whnf);first|refine stp ?_|with_reducible apply Z01<;>intro h)
 conv=>whnf
 refine⟨Nat,(λi=>i<=ts.length),(λi=>[(1,.ptr 0 0),(3,.int .i64 (Z3x (ts.take i):Nat)),(4,.int .i64 i)]),(λ_=>[⟨true,0,0,.cells [.rs ds.length 3 (dcC ds),.rs ts.length 1 (ts.map stA)] 26⟩]),(λi=>ts.length-i),⟨0,Y06 _,Y03 [0] rfl ?_ ⟨hbp,trivial⟩ rfl⟩,?_⟩
 ·simp only[Y0e,Z3x];exact wks
 intro i hi
 dsimp only
 by_cases hlt:i<ts.length
 · have e1:decide ((i:Int)<(ts.length:Int))=true:=by simpa using hlt
   have hst:=deepTL_take ts i hlt
   have hx:=th1 ts i hlt
   have q2:=q1 ts[i] (Z1g hlt)
   generalize ts[i]=l at *
   simp only[stA]at hx q2
   repeat' ((conv=>whnf);first|with_reducible refine exI (q2 _) ?_|(with_reducible refine ixJ i rfl ?_ ?_;focus omega)|refine exI hx ?_|refine stp ?_|with_reducible apply Z01<;>intro h)
   conv=>whnf
   refine⟨i+1,hlt,by show ts.length-(i+1)<ts.length-i;omega,Y03 [0] rfl ?_ ⟨hbp,trivial⟩ rfl⟩
   refine Y07 (Y05 rfl rfl) ?_
   refine Y07 (Y01 ?_) ?_
   ·rw[hst];split<;>omega
   exact⟨Y01 rfl,trivial⟩
 · have e1:decide ((i:Int)<(ts.length:Int))=false:=by simpa using hlt
   have hi2:i=ts.length:=by have:=hi;omega
   subst hi2
   rw[Y0a]
   repeat' ((conv=>whnf);first|refine stp ?_|with_reducible apply Z01<;>intro h)
   all_goals rfl
theorem checkPR_ok(p:Pr)(hok:okP p)(hs:Z0v p.threads<=1048576):ValOK Y00 gl 11 [p.av] (.int .i64 (Z1N p)):=by
 obtain⟨⟨hd1,hd2⟩,ht1,ht2⟩:=hok
 have hdp:=deepTL_size p.threads
 obtain⟨O,hO,p1,p2,p3,p4,-⟩:=fams (P:=Y00) (gl:=gl) [{ I:=Unit,f:=14,G:=λ_=>True,A:=λ_=>[p.av],R:=λ_=>.int .i64 (Z0v p.threads),body:=(by kernel_rfl),inj:=(λ_ _ _ _ _=>rfl),ok:=(λ_ _=>⟨rfl,ZgA p ht2 hs⟩) },
  { I:=Unit,f:=32,G:=λ_=>True,A:=λ_=>[p.av],R:=λ_=>.int .i64 (Z3x p.threads),body:=(by kernel_rfl),inj:=(λ_ _ _ _ _=>rfl),ok:=(λ_ _=>⟨rfl,deepPR_ok p ht2 hs⟩) },
  Zp1 (g:=34) (by kernel_rfl) (λx=>.bool (rightSL x)) p.threads (λx hx=>rights_ok _ x (Y04 _) (Z5Y ht1 _ hx).1 (by have:=Z6w _ _ hx;omega)),
  { I:=List UInt8,f:=33,G:=λs=>s.length<=9223372036854775807,A:=λs=>[.str s],R:=λs=>.bool (Z38 s),body:=(by kernel_rfl),inj:=(λi j _ _ h=>by simp only[List.cons.injEq,AV.str.injEq,and_true]at h;rw[h]),ok:=(λs hs=>⟨rfl,wordRef_ok s hs⟩) }] rfl
 have q1:∀H,Z05 Y00 O H 14 [p.av]=some (.int .i64 (Z0v p.threads),H):=p1 () trivial
 have q2:∀H,Z05 Y00 O H 32 [p.av]=some (.int .i64 (Z3x p.threads),H):=p2 () trivial
 have q3:∀x∈p.threads,∀H,Z05 Y00 O H 34 [stA x]=some (.bool (rightSL x),H):=p3
 have q4:∀s,s.length<=9223372036854775807->∀H,Z05 Y00 O H 33 [.str s]=some (.bool (Z38 s),H):=p4
 clear p1 p2 p3 p4
 unfold Z1N
 obtain⟨ds,ts⟩:=p
 simp only[Pr.av]at *
 generalize Z0v ts=sz at *
 generalize Z3x ts=dp at *
 refine Z0B follows Z06 hO Tryz.func11 rfl ?_
 by_cases hlong:2000<sz\/32<dp
 · rw[if_pos hlong]
   by_cases h1:2000<sz
   · have e1:decide ((sz:Int)>2000)=true:=by simp only[decide_eq_true_eq];omega
     repeat' ((conv=>whnf);first|with_reducible refine exI (q1 _) ?_|with_reducible refine exI (q2 _) ?_|refine stp ?_|with_reducible apply Z01<;>intro h)
     all_goals rfl
   · have e1:decide ((sz:Int)>2000)=false:=by simp only[decide_eq_false_iff_not];omega
     have e2:decide ((dp:Int)>32)=true:=by simp only[decide_eq_true_eq];omega
     repeat' ((conv=>whnf);first|with_reducible refine exI (q1 _) ?_|with_reducible refine exI (q2 _) ?_|refine stp ?_|with_reducible apply Z01<;>intro h)
     all_goals rfl
 rw[if_neg hlong]
 have e1:decide ((sz:Int)>2000)=false:=by simp only[decide_eq_false_iff_not];omega
 have e2:decide ((dp:Int)>32)=false:=by simp only[decide_eq_false_iff_not];omega
 repeat' ((conv=>whnf);first|with_reducible refine exI (q1 _) ?_|with_reducible refine exI (q2 _) ?_|refine stp ?_|with_reducible apply Z01<;>intro h)
 conv=>whnf
 refine⟨Nat,(λi=>i<=ds.length/\(ds.take i).all dcB=true),(λi=>[(1,.ptr 0 0),(3,.int .i64 i)]),(λ_=>[⟨true,0,0,.cells [.rs ds.length 3 (dcC ds),.rs ts.length 1 (ts.map stA)] 26⟩]),(λi=>ds.length-i),⟨0,⟨Y06 _,rfl⟩,Y03 [0] rfl ?_ ⟨hbp,trivial⟩ rfl⟩,?_⟩
 ·exact wks
 rintro i ⟨hi,hall⟩
 dsimp only
 by_cases hlt:i<ds.length
 · have e1:decide ((i:Int)<(ds.length:Int))=true:=by simpa using hlt
   have hat:=Zf0 dcB ds i hlt
   rw[hall,Y0d]at hat
   have hfalse:dcB ds[i]=false->ds.all dcB=false:=ZmP dcB hlt
   have hxn:=dcn ds i hlt
   have hxv:=dcv ds i hlt
   have qn:=q4 ds[i].name (hd2 _ (Z1g hlt))
   generalize hd:ds[i]=d at *
   obtain⟨nm,pl,vl⟩:=d
   simp only[dcB]at hat hfalse hxn hxv qn
   generalize Z38 nm=w at *
   by_cases hv:0<=vl
   · have e3:decide (vl<0)=false:=by simpa using hv
     rw[show decide (0<=vl)=true from by simpa using hv,Y0q]at hat hfalse
     cases w with
     |true =>
      repeat' ((conv=>whnf);first|with_reducible refine exI (qn _) ?_|(with_reducible refine ixJ i rfl ?_ ?_;focus omega)|refine exI hxn ?_|refine exI hxv ?_|refine stp ?_|with_reducible apply Z01<;>intro h)
      conv=>whnf
      refine⟨i+1,⟨hlt,hat⟩,by show ds.length-(i+1)<ds.length-i;omega,Y03 [0] rfl ?_ ⟨hbp,trivial⟩ rfl⟩
      exact wks
     |false =>
      rw[hfalse rfl]
      repeat' ((conv=>whnf);first|with_reducible refine exI (qn _) ?_|(with_reducible refine ixJ i rfl ?_ ?_;focus omega)|refine exI hxn ?_|refine exI hxv ?_|refine stp ?_|with_reducible apply Z01<;>intro h)
      all_goals rfl
   · have e3:decide (vl<0)=true:=by simp only[decide_eq_true_eq];omega
     rw[show decide (0<=vl)=false from by simpa using hv,Y0t]at hat hfalse
     rw[hfalse rfl]
     cases w
     all_goals (repeat' ((conv=>whnf);first|with_reducible refine exI (qn _) ?_|(with_reducible refine ixJ i rfl ?_ ?_;focus omega)|refine exI hxn ?_|refine exI hxv ?_|refine stp ?_|with_reducible apply Z01<;>intro h))
     all_goals rfl
 · have e1:decide ((i:Int)<(ds.length:Int))=false:=by simpa using hlt
   have hi2:i=ds.length:=by have:=hi;omega
   subst hi2
   rw[Y0a]at hall
   rw[hall,Y0d]
   repeat' ((conv=>whnf);first|refine stp ?_|with_reducible apply Z01<;>intro h)
   conv=>whnf
   refine⟨Nat,(λi=>i<=ts.length/\Z1n (ts.take i)=true),(λi=>[(1,.ptr 0 0),(4,.int .i64 i)]),(λ_=>[⟨true,0,0,.cells [.rs ds.length 3 (dcC ds),.rs ts.length 1 (ts.map stA)] 26⟩]),(λi=>ts.length-i),⟨0,⟨Y06 _,rfl⟩,Y03 [0] rfl ?_ ⟨hbp,trivial⟩ rfl⟩,?_⟩
   ·exact wks
   rintro i ⟨hi,hrl⟩
   dsimp only
   by_cases hlt:i<ts.length
   · have e1:decide ((i:Int)<(ts.length:Int))=true:=by simpa using hlt
     have hat:=Z70 ts i hlt
     rw[hrl,Y0d]at hat
     have hfalse:rightSL ts[i]=false->Z1n ts=false:=Z8f hlt
     have hx:=th1 ts i hlt
     have qr:=q3 ts[i] (Z1g hlt)
     generalize ts[i]=l at *
     simp only[stA]at hx qr
     cases hr:rightSL l with
     |true =>
      rw[hr]at hat qr
      repeat' ((conv=>whnf);first|with_reducible refine exI (qr _) ?_|(with_reducible refine ixJ i rfl ?_ ?_;focus omega)|refine exI hx ?_|refine stp ?_|with_reducible apply Z01<;>intro h)
      conv=>whnf
      refine⟨i+1,⟨hlt,hat⟩,by show ts.length-(i+1)<ts.length-i;omega,Y03 [0] rfl ?_ ⟨hbp,trivial⟩ rfl⟩
      exact wks
     |false =>
      rw[hr]at qr
      rw[hfalse hr]
      repeat' ((conv=>whnf);first|with_reducible refine exI (qr _) ?_|(with_reducible refine ixJ i rfl ?_ ?_;focus omega)|refine exI hx ?_|refine stp ?_|with_reducible apply Z01<;>intro h)
      all_goals rfl
   · have e1:decide ((i:Int)<(ts.length:Int))=false:=by simpa using hlt
     have hi2:i=ts.length:=by have:=hi;omega
     subst hi2
     rw[Y0a]at hrl
     rw[hrl]
     repeat' ((conv=>whnf);first|refine stp ?_|with_reducible apply Z01<;>intro h)
     all_goals rfl
end
section
structure GapOK (g:List UInt8):Prop where
 hd:∃d r,g=d::r/\Ends d
 sk:∀u,skip false (g++u)=g.length+skip false u
def gapL:List (List UInt8):=[[32],[10],[9,32],[32,47,47,32,97,32,59,32,123,32,10]]
theorem ends9:Ends 9:=⟨by decide,by decide,by decide,by decide,by decide⟩
theorem sk_bla{c:UInt8}(h:Z4u c.toNat=true)(u:List UInt8):skip false (c::u)=skip false u+1:=by simp only[skip];rw[if_pos h]
theorem sk_rem(c:UInt8)(h:c≠10)(u:List UInt8):skip true (c::u)=skip true u+1:=by simp only[skip];rw[if_neg h]
theorem sk_two(u:List UInt8):skip false (47::47::u)=skip true (47::u)+1:=by simp only[skip];rw[if_neg (by decide),if_pos (by simp)]
theorem gapL_ok:∀g∈gapL,GapOK g:=by
 intro g hg
 simp only[gapL,List.mem_cons,List.not_mem_nil,or_false]at hg
 rcases hg with rfl|rfl|rfl|rfl
 ·exact⟨⟨32,[],rfl,ends32⟩,λu=>by show skip false (32::u)=_;rw[sk_bla (by decide)];show _=1+_;omega⟩
 ·exact⟨⟨10,[],rfl,Zo3⟩,λu=>by show skip false (10::u)=_;rw[sk_bla (by decide)];show _=1+_;omega⟩
 ·exact⟨⟨9,[32],rfl,ends9⟩,λu=>by show skip false (9::32::u)=_;rw[sk_bla (by decide),sk_bla (by decide)];show _=2+_;omega⟩
 · refine⟨⟨32,_,rfl,ends32⟩,λu=>?_⟩
   show skip false (32::47::47::32::97::32::59::32::123::32::10::u)=_
   rw[sk_bla (by decide),sk_two,sk_rem _ (by decide),sk_rem _ (by decide),sk_rem _ (by decide),sk_rem _ (by decide),sk_rem _ (by decide),sk_rem _ (by decide),sk_rem _ (by decide),sk_rem _ (by decide)]
   have:skip true (10::u)=skip false u+1:=by simp only[skip,if_true]
   rw[this]
   show _=11+_
   omega
def joinS(e:List UInt8):List (Tk×List UInt8)->List UInt8
 |[]=>e
 |(t,g)::l=>t.text++(g++joinS e l)
theorem lex_gap{e:List UInt8}(he:skip false e=e.length):Z6q e = .inr []:=by unfold Z6q;rw[he,List.drop_length];rfl
theorem lexJoinS{e:List UInt8}{me:List Tk}(he:Z6q e = .inr me):∀(l:List (Tk×List UInt8)),(∀p∈l,Zpf p.1/\GapOK p.2)->∃m,Z6q (joinS e l) = .inr m/\m.map Tk.v=(l.map λp=>p.1.v)++me.map Tk.v
 |[],_=>⟨me,he,rfl⟩
 |(t,g)::l,h=>by
  obtain⟨⟨h1,c,v,h2,h3,h4⟩,⟨d,r,h5,h6⟩,h7⟩:=h (t,g) (by simp)
  obtain⟨m,ih,im⟩:=lexJoinS he l λp hp=>h p (by simp[hp])
  have hs:skip false (t.text++(g++joinS e l))=0:=by
   rw[h2];simp only[Y0s,skip,h3]
   rw[if_neg (by decide),if_neg (λhq=>h4 hq.1)]
  have hne:t.text≠[]:=by rw[h2];simp
  have hlen:0<t.text.length:=Y0A.2 hne
  have hg:0<g.length:=by rw[show g=d::r from h5];simp
  refine⟨{ t with pos:=0 }::m.map (Tk.up (t.text.length+g.length)),?_,by simp only[List.map_cons,Zpk,im];rfl⟩
  unfold Z6q at ih⊢
  simp only[joinS]
  rw[hs]
  simp only[Y0p]
  have htk:Z50 (t.text++(g++joinS e l))=Z50 t.text:=by rw[show g=d::r from h5];exact Zj9 _ h6 hne
  rw[Z4R,if_neg (by rw[h2];simp),htk,h1]
  simp only
  have e1:(t.text++(g++joinS e l)).drop t.text.length=g++joinS e l:=List.drop_left
  have e2:skip false (g++joinS e l)=g.length+skip false (joinS e l):=h7 _
  have e3:(t.text++(g++joinS e l)).drop (t.text.length+(g.length+skip false (joinS e l)))=(joinS e l).drop (skip false (joinS e l)):=by
   rw[<- Y0u,e1,<- Y0u,List.drop_left]
  have e4:0+t.text.length+(g.length+skip false (joinS e l))=skip false (joinS e l)+(t.text.length+g.length):=by omega
  have e5:(t.text++(g++joinS e l)).take t.text.length=t.text:=List.take_left
  rw[e1,e2,e3,e4,e5,Zhc,Zbv _ ((joinS e l).length+1) _ _ (by simp;omega) (by simp;omega),ih]
  simp only[upR]
theorem lex_one{t:Tk}(h:Zpf t):∃m,Z6q t.text = .inr m/\m.map Tk.v=[t.v]:=by
 obtain⟨h1,c,v,h2,h3,h4⟩:=h
 have hs:skip false t.text=0:=by
  rw[h2];simp only[skip,h3]
  rw[if_neg (by decide),if_neg (λhq=>h4 hq.1)]
 refine⟨[{ t with pos:=0 }],?_,rfl⟩
 unfold Z6q
 rw[hs,Y0p,Z4R,if_neg (by rw[h2];simp),h1]
 simp only
 have e1:t.text.drop t.text.length=[]:=List.drop_length
 have e2:skip false ([]:List UInt8)=0:=rfl
 rw[e1,e2,Nat.add_zero,Nat.add_zero,e1,Y0a]
 have:Z4R t.text.length (0+t.text.length) [] = .inr []:=by
  rw[h2];simp only[Y0v,Z4R,if_true]
 rw[this]
theorem joinS_app(x:List UInt8):∀(l:List (Tk×List UInt8))(e:List UInt8),joinS (e++x) l=joinS e l++x
 |[],e=>rfl
 |(t,g)::l,e=>by simp only[joinS,joinS_app x l e,Y0w]
theorem joinS_snoc(t:Tk)(g:List UInt8):∀(l:List (Tk×List UInt8))(e:List UInt8),joinS e (l++[(t,g)])=joinS (t.text++(g++e)) l
 |[],e=>rfl
 |(t',g')::l,e=>by simp only[Y0s,joinS,joinS_snoc t g l e]
theorem reads_same{l m:List Tk}{n n':Nat}(hT:TqW (Z1q l n))(h:m.map Tk.v=l.map Tk.v){d:List Dc}{t:List (List St)}(r:Z9c l n d t):Z9c m n' d t:=by
 have hlen:m.length=l.length:=by have:=congrArg List.length h;simpa using this
 have g:∀i (h1:i<l.length) (h2:i<m.length),m[i].v=l[i].v:=by
  intro i h1 h2
  have e:(m.map Tk.v)[i]? = (l.map Tk.v)[i]?:=by rw[h]
  rw[Y0x,Y0x,Y0i h1,Y0i h2]at e
  simpa using e
 unfold Z9c
 rw[hlen]
 rcases Nat.eq_zero_or_pos l.length with hz|hz
 · obtain⟨rfl,rfl,e⟩:=Za3 hT r hz
   rw[hz]
   exact Run.nil _
 · have hA:=Ziw (l:=l) (m:=m) (n:=n) (n':=n') (k:=0) (c:=l.length) (λi hi=>⟨hi,by omega,g i hi (by omega)⟩) hz (Y04 _) (by omega)
   exact ZcN hA hT r (by show l.length<=_;omega)
theorem reads_fit{l:List Tk}{n:Nat}(hT:TqW (Z1q l n)){d:List Dc}{t:List (List St)}(r:Z9c l n d t):PrF (Z1q l n) d t ⟨l.length,0,0,0⟩:=by
 have h1:=Zjm hT r rfl (by rw[Z2u];exact Nat.lt_succ_self _) ZdS ((Z1q l n).length+1) [] [] (by show _<=0+_;omega)
 have h2:=Zeg hT ((Z1q l n).length+1)
 rw[show (⟨0,0,0,0⟩:Ps)=s0 from rfl,h1]at h2
 have:=h2 rfl (by show l.length<_;rw[Z2u];exact Nat.lt_succ_self _)
 simpa using this
theorem cU_same{l m:List Tk}{n n':Nat}:∀(c:Nat),(∀i,i<c->∃ (h:i<l.length) (h':i<m.length),m[i].v=l[i].v)->mU (Z1q m n') c=mU (Z1q l n) c/\bU (Z1q m n') c=bU (Z1q l n) c/\tU (Z1q m n') c=tU (Z1q l n) c
 |0,_=>⟨rfl,rfl,rfl⟩
 |c+1,h=>by
  obtain⟨a1,a2,a3⟩:=cU_same (n:=n) (n':=n') c λi hi=>h i (by omega)
  obtain⟨b1,b2,e⟩:=h c (by omega)
  simp only[Tk.v,Prod.mk.injEq]at e
  have e1:Z51 (Z1q m n') c=m[c].q:=Z82 b2
  have e2:Z51 (Z1q l n) c=l[c].q:=Z82 b1
  have e3:Zfm (Z1q m n') c=Zfm (Z1q l n) c:=by unfold Zfm;rw[e1,e2];simp only[Tk.q];rw[e.1]
  have e4:(Z51 (Z1q m n') c).text=(Z51 (Z1q l n) c).text:=by rw[e1,e2];exact e.2.1
  simp only[mU,bU,tU,a1,a2,a3,e3,e4]
  exact⟨trivial,trivial,trivial⟩
theorem reads_less{l m:List Tk}{n n':Nat}(hT:TqW (Z1q l n))(hT':TqW (Z1q m n'))(hl:l≠[])(h:m.map Tk.v=(l.take (l.length-1)).map Tk.v){d d':List Dc}{t t':List (List St)}(r:Z9c l n d t)(r':Z9c m n' d' t')(h1:Zfn t=Zfn t')(h2:t.length=t'.length):False:=by
 have hpos:0<l.length:=Y0A.2 hl
 have hlen:m.length=l.length-1:=by have:=congrArg List.length h;simpa using this
 obtain⟨a1,a2,a3⟩:=cU_same (l:=l) (m:=m) (n:=n) (n':=n') m.length (λi hi=>by
  refine⟨by omega,hi,?_⟩
  have e:(m.map Tk.v)[i]? = ((l.take (l.length-1)).map Tk.v)[i]?:=by rw[h]
  rw[Y0x,Y0x,Y0i hi,List.getElem?_take_of_lt (by omega),Y0i (show i<l.length by omega)]at e
  simpa using e)
 have f:=reads_fit hT r
 have f':=reads_fit hT' r'
 obtain⟨s1,s2⟩:Zo4 (Z1q l n) (l.length-1):=f.last hpos
 have e1:=f.sem
 have e2:=f.brc
 have e1':=f'.sem
 have e2':=f'.brc
 simp only at e1 e2 e1' e2'
 obtain⟨c,hc⟩:∃c,l.length=c+1:=⟨l.length-1,by omega⟩
 have hm:m.length=c:=by omega
 rw[hm]at a1 a2 a3 e1' e2'
 rw[hc]at e1 e2 s1 s2
 rw[Nat.add_sub_cancel]at s1 s2
 simp only[mU,bU,tU,s1,if_true]at e1 e2
 rcases s2 with s2|s2
 · rw[s2]at e1
   have k1:ZgI [59]=1:=rfl
   have k2:Zfi [59]=0:=by decide
   rw[k1,k2]at e1
   omega
 · rw[s2]at e2
   have k1:ZeW [125] = -1:=by decide
   rw[k1]at e2
   omega
end
section
variable {gl:Z0g}
def txAt(l:List Tk)(i:Nat):List UInt8:=match l[i]? with|some t=>t.text|none=>[]
def jAt(l:List Tk):Nat->List UInt8
 |0=>[]
 |i+1=>(if 0<i then jAt l i++[32] else jAt l i)++txAt l i
theorem jAt_eq(l:List Tk):∀(i:Nat)(h:i<l.length),jAt l (i+1)=joinS l[i].text ((l.take i).map λt=>(t,[32]))
 |0,h=>by simp only[jAt,txAt,Y0i h];rfl
 |i+1,h=>by
  have ih:=jAt_eq l i (by omega)
  have e:jAt l (i+2)=(jAt l (i+1)++[32])++l[i+1].text:=by
   show (if 0<i+1 then jAt l (i+1)++[32] else jAt l (i+1))++txAt l (i+1)=_
   rw[if_pos (by omega)]
   simp only[txAt,Y0i h]
  rw[e,ih,Y0D (by omega),List.map_append,List.map_singleton,joinS_snoc,<- joinS_app,<- joinS_app,Y0w]
theorem jAt_len{l:List Tk}{M:Nat}(h:∀t∈l,t.text.length<=M):∀i,(jAt l i).length<=i*(M+1)
 |0=>Y06 _
 |i+1=>by
  have ih:=jAt_len h i
  have ht:(txAt l i).length<=M:=by
   unfold txAt
   cases e:l[i]? with
   |none=>exact Y06 _
   |some t=>exact h t (List.mem_of_getElem? e)
  have e:(i+1)*(M+1)=i*(M+1)+(M+1):=Nat.succ_mul _ _
  simp only[jAt,Y0l]
  split
  ·simp only[Y0l,List.length_singleton];omega
  ·omega
theorem tk4':∀(l:List Tk)(i:Nat)(h:i<l.length),tk 1 (((Zcw l).drop (i*4)).drop 1)=some [.str l[i].text]
 |[],i,h=>absurd h (Nat.not_lt_zero _)
 |t::l,0,h=>by simp only[Nat.zero_mul,Y0p,Zcw];rfl
 |t::l,i+1,h=>by
  have e:(i+1)*4=i*4+4:=by omega
  have h2:=tk4' l i (by simpa using h)
  rw[e]
  exact h2
def isNoQ(f:Nat):Bool:=false
theorem rjoin_ok(l:List Tk)(hl:l.length<=70000)(ht:∀t∈l,t.text.length<=70000):ValOK Y00 gl 13 [.rs l.length 4 (Zcw l)] (.str (jAt l l.length)):=by
 refine Z1z isNoQ 3 follows Z06 Z0u Tryz.func13 rfl ?_
 repeat' ((conv=>whnf);first|refine stp ?_|with_reducible apply Z01<;>intro h)
 conv=>whnf
 refine⟨Nat,(λi=>i<=l.length),(λi=>[(0,.rs l.length 4 (Zcw l)),(3,.str (jAt l i)),(4,.int .i64 i)]),(λ_=>[]),(λi=>l.length-i),⟨0,Y06 _,Y08 rfl ⟨Y02 rfl,Y02 rfl,Y01 rfl,trivial⟩⟩,?_⟩
 rintro i hi
 dsimp only at hi⊢
 by_cases hlt:i<l.length
 · have e1:decide ((i:Int)<(l.length:Int))=true:=by simpa using hlt
   have hx:=tk4' l i hlt
   have hj:txAt l i=l[i].text:=by unfold txAt;rw[Y0i hlt]
   have hs:=jAt_len ht i
   have hm:=ht l[i] (Y0r hlt)
   have hb:i*(70000+1)<=70000*70001:=Nat.mul_le_mul (by omega) (by decide)
   have e2:jAt l (i+1)=(if 0<i then jAt l i++[32] else jAt l i)++l[i].text:=by rw[<- hj];rfl
   have c1:(jAt l i).length+({ data:=#[32] }:ByteArray).data.toList.length<=9223372036854775807:=by show (jAt l i).length+1<=_;omega
   have c2:(jAt l i++({ data:=#[32] }:ByteArray).data.toList).length+l[i].text.length<=9223372036854775807:=by rw[Y0l];show (jAt l i).length+1+_<=_;omega
   have c3:(jAt l i).length+l[i].text.length<=9223372036854775807:=by omega
   generalize l[i].text=tx at *
   by_cases hz:0<i
   · have e3:decide ((i:Int)>0)=true:=by simpa using hz
     rw[if_pos hz]at e2
     repeat' ((conv=>whnf);first|(refine Y07 c1 ?_)|(refine Y07 c2 ?_)|refine exI hx ?_|(with_reducible refine ixJ i rfl ?_ ?_;focus omega)|refine stp ?_|with_reducible apply Z01<;>intro h)
     conv=>whnf
     refine⟨i+1,hlt,by show l.length-(i+1)<l.length-i;omega,Y08 rfl ?_⟩
     rw[e2]
     exact⟨Y02 rfl,Y02 rfl,Y01 rfl,trivial⟩
   · have e3:decide ((i:Int)>0)=false:=by simp;omega
     rw[if_neg hz]at e2
     repeat' ((conv=>whnf);first|(refine Y07 c3 ?_)|refine exI hx ?_|(with_reducible refine ixJ i rfl ?_ ?_;focus omega)|refine stp ?_|with_reducible apply Z01<;>intro h)
     conv=>whnf
     refine⟨i+1,hlt,by show l.length-(i+1)<l.length-i;omega,Y08 rfl ?_⟩
     rw[e2]
     exact⟨Y02 rfl,Y02 rfl,Y01 rfl,trivial⟩
 · have e1:decide ((i:Int)<(l.length:Int))=false:=by simpa using hlt
   have hi':i=l.length:=by omega
   subst hi'
   repeat' ((conv=>whnf);first|refine stp ?_|with_reducible apply Z01<;>intro h)
   all_goals rfl
end
section
def lensT:List Tk->Nat
 |[]=>0
 |t::l=>t.text.length+lensT l
theorem lexF_sum:∀(n pos:Nat)(s:List UInt8)(l:List Tk),Z4R n pos s = .inr l->lensT l<=s.length/\l.length<=s.length
 |0,pos,s,l,h=>by cases h;exact⟨Y06 _,Y06 _⟩
 |n+1,pos,s,l,h=>by
  unfold Z4R at h
  split at h
  ·cases h;exact⟨Y06 _,Y06 _⟩
  · split at h
    ·cases h
    · rename_i kd len num hk
      have hl:=Z7w hk
      split at h
      ·cases h
      · rename_i l2 h2
        cases h
        obtain⟨a,b⟩:=lexF_sum n _ _ _ h2
        simp only[Y0j]at a b
        simp only[lensT,Y0v,Y0o]
        omega
theorem lensT_take:∀(l:List Tk)(i:Nat),i<l.length->lensT (l.take (i+1))=lensT (l.take i)+(txAt l i).length
 |[],i,h=>absurd h (Nat.not_lt_zero _)
 |t::l,0,h=>by simp[lensT,txAt]
 |t::l,i+1,h=>by
  have h2:=lensT_take l i (by simpa using h)
  have e:txAt (t::l) (i+1)=txAt l i:=by unfold txAt;rw[List.getElem?_cons_succ]
  rw[e]
  simp only[Y09,lensT]at h2⊢
  omega
theorem jAt_sum(l:List Tk):∀i,i<=l.length->(jAt l i).length<=lensT (l.take i)+i
 |0,_=>by simp[jAt]
 |i+1,h=>by
  have ih:=jAt_sum l i (by omega)
  have e:=lensT_take l i (by omega)
  simp only[jAt,Y0l]
  split
  ·simp only[Y0l,List.length_singleton];omega
  ·omega
theorem lensT_le:∀(l:List Tk)(i:Nat),lensT (l.take i)<=lensT l
 |[],i=>by simp[lensT]
 |t::l,0=>Y06 _
 |t::l,i+1=>by have:=lensT_le l i;simp only[Y09,lensT];omega
theorem gap_sp:GapOK [32]:=gapL_ok _ (by simp[gapL])
theorem jAt_lex{l:List Tk}(h:∀t∈l,Zpf t):∃m,Z6q (jAt l l.length) = .inr m/\m.map Tk.v=l.map Tk.v:=by
 rcases Nat.eq_zero_or_pos l.length with hz|hz
 · have:=List.length_eq_zero_iff.1 hz
   subst this
   exact⟨[],rfl,rfl⟩
 · obtain⟨c,hc⟩:∃c,l.length=c+1:=⟨l.length-1,by omega⟩
   obtain⟨me,h1,h2⟩:=lex_one (h (l[c]'(by omega)) (Y0r _))
   obtain⟨m,h3,h4⟩:=lexJoinS h1 ((l.take c).map λt=>(t,[32])) (λp hp=>by
    obtain⟨t,ht,rfl⟩:=List.mem_map.1 hp
    exact⟨h t (Y0B ht),gap_sp⟩)
   refine⟨m,by rw[hc,jAt_eq l c (by omega)];exact h3,?_⟩
   rw[h4,h2,List.map_map]
   have e:l=l.take c++[l[c]'(by omega)]:=by rw[<- Y0D (by omega),<- hc,Y0a]
   have e2:l.map Tk.v=(l.take c).map Tk.v++[(l[c]'(by omega)).v]:=by
    have:=congrArg (List.map Tk.v) e
    rw[List.map_append]at this
    exact this
   rw[e2]
   rfl
mutual
theorem same_sem:∀(a b:St),Z7k a b=true->Zn0 a=Zn0 b
 | .mk k n l o x t e,.mk k' n' l' o' x' t' e',h=>by
  simp only[Z7k,Y0b,beq_iff_eq]at h
  obtain⟨rfl,-,-,-,-,h1,h2⟩:=h
  simp only[Zn0,same_semL t t' h1,same_semL e e' h2]
theorem same_semL:∀(a b:List St),sameSL a b=true->semSL a=semSL b
 |[],[],_=>rfl
 |[],_::_,h=>by simp[sameSL]at h
 |_::_,[],h=>by simp[sameSL]at h
 |x::a,y::b,h=>by
  simp only[sameSL,Y0b]at h
  simp only[semSL,same_sem x y h.1,same_semL a b h.2]
end
theorem same_semT:∀(a b:List (List St)),Z55 sameSL a b=true->Zfn a=Zfn b/\a.length=b.length
 |[],[],_=>⟨rfl,rfl⟩
 |[],_::_,h=>by simp[Z55]at h
 |_::_,[],h=>by simp[Z55]at h
 |x::a,y::b,h=>by
  simp only[Z55,Y0b]at h
  obtain⟨h1,h2⟩:=same_semT a b h.2
  simp only[Zfn,same_semL x y h.1,h1,Y0v,h2]
  exact⟨trivial,trivial⟩
theorem tells_less {s : List UInt8} (hs : s.length <= 4000) (h : okX s = true) {l : List Tk} (hl : Z6q s = .inr l) (hne : l ≠ []) :
  (jAt (l.take (l.length-1)) (l.take (l.length-1)).length).length<=65536/\(okX (jAt (l.take (l.length-1)) (l.take (l.length-1)).length)=true->Zjl (Z0J (jAt (l.take (l.length-1)) (l.take (l.length-1)).length)) (Z0J s)=false):=by
 have hsum:=lexF_sum _ _ _ _ hl
 simp only[Y0j]at hsum
 have hb:(jAt (l.take (l.length-1)) (l.take (l.length-1)).length).length<=65536:=by
  have h1:=jAt_sum (l.take (l.length-1)) _ (Y04 _)
  rw[Y0a]at h1
  have h2:=lensT_le l (l.length-1)
  have h3:(l.take (l.length-1)).length<=l.length:=by rw[Y0o];omega
  omega
 refine⟨hb,λh2=>?_⟩
 obtain⟨a1,a2⟩:=(Z5o (by omega)).1 h
 obtain⟨l',hl',r⟩:=Z7C (by omega) a1
 rw[hl]at hl'
 have e0:l=l':=by injection hl'
 subst e0
 have hok:=ZcV _ _ _ _ hl
 obtain⟨m,hm,mv⟩:=jAt_lex (l:=l.take (l.length-1)) (λt ht=>hok t (Y0B ht))
 obtain⟨b1,b2⟩:=(Z5o hb).1 h2
 obtain⟨m',hm',r'⟩:=Z7C hb b1
 rw[hm]at hm'
 have e1:m=m':=by injection hm'
 subst e1
 cases hx:Zjl (Z0J (jAt (l.take (l.length-1)) (l.take (l.length-1)).length)) (Z0J s) with
 |false=>rfl
 |true =>
  exfalso
  unfold Zjl at hx
  rw[Y0b]at hx
  obtain⟨k1,k2⟩:=same_semT _ _ hx.2
  exact reads_less (Z7Z hl (by omega) _) (Z7Z hm hb _) hne mv r r' k1.symm k2.symm
def wJ:List Tk->List (List UInt8)->List UInt8
 |t::l,g::gs=>t.text++(g++wJ l gs)
 |_,_=>[]
theorem wJ_snoc:∀(l:List Tk)(gs:List (List UInt8))(g:List UInt8),gs.length<l.length->wJ l (gs++[g])=wJ l gs++(txAt l gs.length++g)
 |[],gs,g,h=>absurd h (Nat.not_lt_zero _)
 |t::l,[],g,h=>by simp only[Y0C,wJ,txAt];cases l<;>simp[wJ]
 |t::l,x::gs,g,h=>by
  have ih:=wJ_snoc l gs g (by simpa using h)
  have e:txAt (t::l) (gs.length+1)=txAt l gs.length:=by unfold txAt;rw[List.getElem?_cons_succ]
  simp only[Y0s,wJ,Y0v,e,ih,Y0w]
theorem wJ_join:∀(l:List Tk)(e:Tk)(gs:List (List UInt8)),e.text=[]->gs.length=l.length+1->(∀g∈gs,g∈gapL)->∃g0∈gapL,∃z:List (Tk×List UInt8),wJ (l++[e]) gs=joinS g0 z/\z.map (·.1)=l/\∀p∈z,p.2∈gapL
 |[],e,gs,he,hl,hg=>by
  match gs,hl with
  |[g],_=>exact⟨g,hg g (by simp),[],by simp[wJ,he,joinS],rfl,λp hp=>by cases hp⟩
 |t::l,e,gs,he,hl,hg=>by
  match gs,hl with
  |g::gs,hl =>
   obtain⟨g0,h0,z,h1,h2,h3⟩:=wJ_join l e gs he (by simpa using hl) (λx hx=>hg x (by simp[hx]))
   refine⟨g0,h0,(t,g)::z,by simp only[Y0s,wJ,joinS,h1],by simp only[List.map_cons,h2],λp hp=>?_⟩
   rcases List.mem_cons.1 hp with rfl|hp
   ·exact hg g (by simp)
   ·exact h3 p hp
theorem tells_wide{s:List UInt8}(hs:s.length<=4000)(h:okX s=true){l:List Tk}(hl:Z6q s = .inr l){gs:List (List UInt8)}{e:Tk}(he:e.text=[])(hg:gs.length=l.length+1)(hG:∀g∈gs,g∈gapL)(hw:(wJ (l++[e]) gs).length<=65536):Z0A (wJ (l++[e]) gs)=((0,0),Z0J s):=by
 obtain⟨a1,a2⟩:=(Z5o (by omega)).1 h
 obtain⟨l',hl',r⟩:=Z7C (by omega) a1
 rw[hl]at hl'
 have e0:l=l':=by injection hl'
 subst e0
 have hok:=ZcV _ _ _ _ hl
 obtain⟨g0,h0,z,h1,h2,h3⟩:=wJ_join l e gs he hg hG
 have hsk:skip false g0=g0.length:=by have:=(gapL_ok g0 h0).sk [];simpa[skip]using this
 obtain⟨m,hm,mv⟩:=lexJoinS (lex_gap hsk) z (λp hp=>⟨hok p.1 (by rw[<- h2];exact List.mem_map_of_mem hp),gapL_ok _ (h3 p hp)⟩)
 rw[<- h1]at hm
 have mv':m.map Tk.v=l.map Tk.v:=by rw[mv,List.map_nil,Y0h,<- h2,List.map_map];rfl
 obtain⟨b1,b2⟩:=Zek hw hm (reads_same (n':=(wJ (l++[e]) gs).length) (Z7Z hl (by omega) _) mv' r)
 rw[Zh1 hw ((Z5o hw).2 ⟨b1,by rw[b2];exact a2⟩),b2]
end
section
variable {gl:Z0g}
def pickZ(n:Int)(m:Nat):Int:=cond (decide (n.tmod m<0)) (n.tmod m+m) (n.tmod m)
theorem pickZ_in(n:Int){m:Nat}(h:0<m):0<=pickZ n m/\pickZ n m<m:=by
 have h1:=Int.tmod_lt_of_pos n (b:=(m:Int)) (by omega)
 have h2 : -(m:Int)<n.tmod m:=by
  have:=Int.tmod_lt_of_pos (-n) (b:=(m:Int)) (by omega)
  rw[Int.neg_tmod]at this;omega
 unfold pickZ
 cases h3:decide (n.tmod m<0) with
 |true=>have:=of_decide_eq_true h3;simp only[cond_true];omega
 |false=>have:=of_decide_eq_false h3;simp only[cond_false];omega
theorem pick_ok(n:Int)(m:Nat)(hm:0<m)(hm2:m<=9223372036854775807):ValOK Y00 gl 12 [.int .i64 n,.int .i64 m] (.int .i64 (pickZ n m)):=by
 refine Z0B follows Z06 Z0u Tryz.func12 rfl ?_
 have h0:(m:Int)≠0:=by omega
 repeat' ((conv=>whnf);first|(refine Y07 h0 ?_)|refine stp ?_|with_reducible apply Z01<;>intro h)
 · show AV.int _ _=AV.int _ _
   have h1:=pickZ_in n hm
   unfold pickZ at h1⊢
   rw[h]at h1⊢
   simp only[cond_true]at h1⊢
   rw[Z7h (by omega) (by omega)]
 · show AV.int _ _=AV.int _ _
   unfold pickZ
   rw[h];rfl
end
end Go.Proofs.YtneoiadnbikciaaGreatDoor.lex
section
namespace Go.Abs
open Go.RowKit
mutual
def wkV:AV->AV->Bool
 | .nslice,.rs 0 _ []=>true
 | .agg a,.agg b=>wkVL a b
 | .rs n z a,.rs n' z' b=>Y0f n n'&&(Y0f z z'&&wkVL a b)
 | .rp a,.rp b=>wkVL a b
 |u,u2=>veq u u2
def wkVL:List AV->List AV->Bool
 |[],[]=>true
 |u::l,u2::l2=>wkV u u2&&wkVL l l2
 |_,_=>false
end
theorem wkVL_len:∀{l l2:List AV},wkVL l l2=true->l.length=l2.length
 |[],[],_=>rfl
 |u::l,u2::l2,h=>by simp only[wkVL,Y0b]at h;simp[wkVL_len h.2]
 |[],_::_,h=>by simp[wkVL]at h
 |_::_,[],h=>by simp[wkVL]at h
mutual
theorem wkV_VR{sn:Z0m}{ι : Z0i}:∀(u u2:AV)(v:Value),wkV u u2=true->VR sn ι u v->VR sn ι u2 v
 | .agg a,.agg b,v,h,e=>by
  simp only[wkV]at h
  obtain⟨d,rfl,h1⟩:=e.agg
  exact Z44 (wkVL_LR a b _ h h1)
 | .rs n z a,.rs n' z' b,v,h,e=>by
  simp only[wkV,Y0b]at h
  obtain⟨h1,h2,h3⟩:=h
  have:=Y0y h1;subst this
  have:=Y0y h2;subst this
  have hl:=wkVL_len h3
  simp only[VR]at e⊢
  rcases e with ⟨e1,rfl,e3⟩|⟨ad,cap,e1,e2,e3,e4,e5⟩
  ·exact .inl ⟨e1,by cases b with|nil=>rfl|cons _ _=>simp at hl,e3⟩
  ·exact .inr ⟨ad,cap,e1,e2,by rw[<- hl];exact e3,wkVL_MR a b _ _ h3 e4,e5⟩
 | .rp a,.rp b,v,h,e=>by
  simp only[wkV]at h
  simp only[VR]at e⊢
  obtain⟨bl,o,e1,e2⟩:=e
  exact⟨bl,o,e1,wkVL_MR a b _ _ h e2⟩
 |u,u2,v,h,e=>by
  by_cases hn:u = .nslice/\∃z,u2 = .rs 0 z []
  · obtain⟨rfl,z,rfl⟩:=hn
    exact Z2B e
  · have : veq u u2 = true \/ ((∃ a b, u = .agg a /\ u2 = .agg b) \/ (∃ n z a n' z' b, u = .rs n z a /\ u2 = .rs n' z' b) \/ (∃ a b, u = .rp a /\ u2 = .rp b)) := by
     unfold wkV at h
     split at h
     ·exact (hn ⟨rfl,_,rfl⟩).elim
     ·exact .inr (.inl ⟨_,_,rfl,rfl⟩)
     ·exact .inr (.inr (.inl ⟨_,_,_,_,_,_,rfl,rfl⟩))
     ·exact .inr (.inr (.inr ⟨_,_,rfl,rfl⟩))
     ·exact .inl h
    rcases this with h|⟨a,b,rfl,rfl⟩|⟨n,z,a,n',z',b,rfl,rfl⟩|⟨a,b,rfl,rfl⟩
    ·have:=ZdM _ _ h;subst this;exact e
    · simp only[wkV]at h
      obtain⟨d,rfl,h1⟩:=e.agg
      exact Z44 (wkVL_LR a b _ h h1)
    · simp only[wkV,Y0b]at h
      obtain⟨h1,h2,h3⟩:=h
      have:=Y0y h1;subst this
      have:=Y0y h2;subst this
      have hl:=wkVL_len h3
      simp only[VR]at e⊢
      rcases e with ⟨e1,rfl,e3⟩|⟨ad,cap,e1,e2,e3,e4,e5⟩
      ·exact .inl ⟨e1,by cases b with|nil=>rfl|cons _ _=>simp at hl,e3⟩
      ·exact .inr ⟨ad,cap,e1,e2,by rw[<- hl];exact e3,wkVL_MR a b _ _ h3 e4,e5⟩
    · simp only[wkV]at h
      simp only[VR]at e⊢
      obtain⟨bl,o,e1,e2⟩:=e
      exact⟨bl,o,e1,wkVL_MR a b _ _ h e2⟩
theorem wkVL_LR{sn:Z0m}{ι : Z0i}:∀(l l2:List AV)(vs:List Value),wkVL l l2=true->LR sn ι l vs->LR sn ι l2 vs
 |[],[],vs,h,e=>e
 |u::l,u2::l2,vs,h,e=>by
  simp only[wkVL,Y0b]at h
  simp only[LR]at e⊢
  obtain⟨d,ds,e1,e2,e3⟩:=e
  exact⟨d,ds,e1,wkV_VR u u2 d h.1 e2,wkVL_LR l l2 ds h.2 e3⟩
 |[],_::_,_,h,_=>by simp[wkVL]at h
 |_::_,[],_,h,_=>by simp[wkVL]at h
theorem wkVL_MR{sn:Z0m}:∀(l l2:List AV)(b o:Nat),wkVL l l2=true->MR sn l b o->MR sn l2 b o
 |[],[],b,o,h,e=>e
 |u::l,u2::l2,b,o,h,e=>by
  simp only[wkVL,Y0b]at h
  simp only[MR]at e⊢
  obtain⟨⟨v,e1,e2⟩,e3⟩:=e
  exact⟨⟨v,e1,wkV_VR u u2 v h.1 e2⟩,wkVL_MR l l2 b (o+1) h.2 e3⟩
 |[],_::_,_,_,h,_=>by simp[wkVL]at h
 |_::_,[],_,_,h,_=>by simp[wkVL]at h
end
theorem ValOK.nils{P:Program}{gl:Z0g}{f:Nat}{args args2:List AV}{r:AV}(h:ValOK P gl f args2 r)(hw:wkVL args args2=true):ValOK P gl f args r :=
 h.weak λsn vs e=>wkVL_LR args args2 vs hw e
end Go.Abs
end
section
namespace Go.Proofs.YtneoiadnbikciaaGreatDoor.lex
open Go.Abs Go.RowKit
variable {gl:Z0g}
theorem bnt{b:Bool}(h:b=false):(!b)=true:=by rw[h];rfl
def isTl(f:Nat):Bool:=Y0f f 8 || (Y0f f 10 || (Y0f f 11 || (Y0f f 9 || (Y0f f 12 || (Y0f f 13 || Y0f f 7)))))
theorem parseX_no{s:List UInt8}(hs:s.length<=65536)(h:okX s=false):(Z0A s).2=⟨[],[]⟩:=by
 unfold Z0A
 split
 ·rfl
 · split
   ·rfl
   · rename_i h1 h2
     have:okX s=true:=(Z5o hs).2 ⟨Classical.not_not.1 h1,Classical.not_not.1 h2⟩
     rw[this]at h;cases h
theorem tl_bad(s:List UInt8)(n:Int)(hs:s.length<=4000)(h:okX s=false):ValOK Y00 runLives.gl 3 [.str s,.int .i64 n] (.bool true):=by
 have hz:okP ⟨[],[]⟩:=⟨⟨Y06 _,λd hd=>by cases hd⟩,trivial,Y06 _⟩
 have hK:ValOK Y00 runLives.gl 9 [.agg [.rs 0 3 [],.rs 0 1 []],.agg [.nslice,.nslice]] (.bool true):=ValOK.nils (args2:=[(Pr.mk [] []).av,(Pr.mk [] []).av]) (by have:=Zeu (gl:=runLives.gl) ⟨[],[]⟩ ⟨[],[]⟩ hz;rw[Z9k]at this;exact this) rfl
 have e1:decide ((s.length:Int)>4000)=false:=by simp;omega
 obtain⟨O,hO,p1,p2,p3,-⟩:=fams (P:=Y00) (gl:=runLives.gl) [Z7G,Zbn (by kernel_rfl) rfl ZkK,Zbn (by kernel_rfl) rfl hK] rfl
 have qa:∀H,Z05 Y00 O H 8 [.str s]=some (.tuple [(Z0A s).2.av,.agg [.int .i64 (Z0A s).1.1,.int .i64 (Z0A s).1.2]],H):=p1 s (show s.length<=65536 by omega)
 have q3:∀H,Z05 Y00 O H 7 []=some (.bool true,H):=p2 () trivial
 have q4:∀H,Z05 Y00 O H 9 [.agg [.rs 0 3 [],.rs 0 1 []],.agg [.nslice,.nslice]]=some (.bool true,H):=p3 () trivial
 clear p1 p2 p3
 rw[parseX_no (by omega) h]at qa
 unfold okX at h
 have nh:=bnt h
 generalize (Z0A s).1.1=e at *
 generalize (Z0A s).1.2=a at *
 simp only[Pr.av]at qa
 refine Z1z isTl 3 follows Z06 hO Tryz.func3 rfl ?_
 repeat' ((conv=>whnf);first|refine exI (Zdt _ _ _ _) ?_|refine exI (qa _) ?_|refine exI (q3 _) ?_|refine exI (q4 _) ?_|refine stp ?_|with_reducible apply Z01<;>intro h)
 all_goals rfl
theorem tl_big(s:List UInt8)(n:Int)(hs:¬s.length<=4000):ValOK Y00 runLives.gl 3 [.str s,.int .i64 n] (.bool true):=by
 have e1:decide ((s.length:Int)>4000)=true:=by simp;omega
 obtain⟨O,hO,p2,-⟩:=fams (P:=Y00) (gl:=runLives.gl) [Zbn (by kernel_rfl) rfl ZkK] rfl
 have q3:∀H,Z05 Y00 O H 7 []=some (.bool true,H):=p2 () trivial
 refine Z1z isTl 3 follows Z06 hO Tryz.func3 rfl ?_
 repeat' ((conv=>whnf);first|refine exI (q3 _) ?_|refine stp ?_|with_reducible apply Z01<;>intro h)
 all_goals rfl
theorem tdc_inj:∀(a b:List Dc),dcC a=dcC b->a.length=b.length->a=b
 |[],[],_,_=>rfl
 |[],_::_,_,h=>by simp at h
 |_::_,[],_,h=>by simp at h
 |⟨n,q,v⟩::a,⟨n',q',v'⟩::b,h,hl=>by
  simp only[dcC,Dc.cells,Y0s,Y0C,List.cons.injEq,AV.str.injEq,AV.bool.injEq,AV.int.injEq,true_and]at h
  obtain⟨rfl,rfl,rfl,h⟩:=h
  rw[tdc_inj a b h (by simpa using hl)]
theorem tth_inj:∀(a b:List (List St)),a.map stA=b.map stA->a=b
 |[],[],_=>rfl
 |[],_::_,h=>by simp at h
 |_::_,[],h=>by simp at h
 |x::a,y::b,h=>by
  simp only[List.map_cons,List.cons.injEq]at h
  rw[Z5i h.1,tth_inj a b h.2]
theorem tpr_inj{p q:Pr}(h:p.av=q.av):p=q:=by
 obtain⟨ds,ts⟩:=p
 obtain⟨ds',ts'⟩:=q
 simp only[Pr.av,AV.agg.injEq,List.cons.injEq,AV.rs.injEq,and_true,true_and]at h
 obtain⟨⟨h1,h2⟩,h3,h4⟩:=h
 rw[tdc_inj _ _ h2 h1,tth_inj _ _ h4]
def kpFam:Fam Y00 gl:={ I:=Pr×Pr,f:=9,G:=λi=>okP i.1,A:=λi=>[i.1.av,i.2.av],R:=λi=>.bool (Zjl i.1 i.2),body:=(by kernel_rfl),inj:=(λi j _ _ h=>by
 simp only[List.cons.injEq,and_true]at h
 rw[tpr_inj h.1,tpr_inj h.2]),ok:=(λi h=>⟨rfl,Zeu i.1 i.2 h⟩) }
def pickFam4:Fam Y00 gl:={ I:=Int,f:=12,G:=λ_=>True,A:=λn=>[.int .i64 n,.int .i64 4],R:=λn=>.int .i64 (pickZ n 4),body:=(by kernel_rfl),inj:=(λi j _ _ h=>by simp only[List.cons.injEq,AV.int.injEq,true_and,and_true]at h;rw[h]),ok:=(λn _=>⟨rfl,pick_ok n 4 (by decide) (by decide)⟩) }
theorem wkS{m:List Nat}{a b:List UInt8}(h:a=b):Wk m (.str a) (.str b):=by subst h;exact Y02 rfl
theorem tksC_take(m:List Tk):∀(l:List Tk)(k:Nat),k<=l.length->(Zcw (l++m)).take (k*4)=Zcw (l.take k)
 |l,0,_=>by simp[Zcw]
 |[],k+1,h=>absurd h (by simp)
 |t::l,k+1,h=>by
  have ih:=tksC_take m l k (by simpa using h)
  have e:(k+1)*4=k*4+4:=by omega
  rw[e]
  simp only[Y0s,Zcw,Tk.cells,Y09,Y0C,ih]
structure Tls where
 i:Nat
 gs:List (List UInt8)
 n:Int
theorem tl_ok(s:List UInt8)(n:Int)(hs:s.length<=4000)(h:okX s=true):ValOK Y00 runLives.gl 3 [.str s,.int .i64 n] (.bool true):=by
 obtain⟨a1,a2⟩:=(Z5o (by omega)).1 h
 obtain⟨l,hl,r⟩:=Z7C (by omega) a1
 have hsum:=lexF_sum _ _ _ _ hl
 simp only[Y0j]at hsum
 have htl:=Zhe _ _ _ _ hl
 simp only[Y0j]at htl
 have e1:decide ((s.length:Int)>4000)=false:=by simp;omega
 have hR:ZiZ s = .tuple [.rs (l.length+1) 4 (Zcw (l++[⟨5,[],0,s.length⟩])),.agg [.int .i64 0,.int .i64 0]]:=by unfold ZiZ;rw[if_neg (by omega),hl]
 have hAll:=allRef_ok (gl:=runLives.gl) s (by omega)
 rw[hR]at hAll
 obtain⟨oP,sP⟩:=ZcR (s:=s) (by omega)
 have hp:=Zh1 (by omega) h
 rw[hp]at oP sP
 have hCk:=checkPR_ok (gl:=runLives.gl) (Z0J s) oP (show Z0v (Z0J s).threads<=1048576 by have:Z0v (Z0J s).threads<=1000000:=sP;omega)
 rw[a2]at hCk
 have hJ:ValOK Y00 runLives.gl 13 [.rs (l.length-1) 4 (Zcw (l.take (l.length-1)))] (.str (jAt (l.take (l.length-1)) (l.take (l.length-1)).length)):=by
  have:=rjoin_ok (gl:=runLives.gl) (l.take (l.length-1)) (by rw[Y0o];omega) (λt ht=>by have:=htl t (Y0B ht);omega)
  have e:(l.take (l.length-1)).length=l.length-1:=by rw[Y0o];omega
  rw[e]at this⊢
  exact this
 obtain⟨O,hO,p1,p2,p3,p4,p5,p6,p7,-⟩:=fams (P:=Y00) (gl:=runLives.gl) [Z7G,Zbn (by kernel_rfl) rfl ZkK,Zbn (by kernel_rfl) rfl hAll,Zbn (by kernel_rfl) rfl hCk,kpFam,pickFam4,Zbn (by kernel_rfl) rfl hJ] rfl
 have qj:∀H,Z05 Y00 O H 13 [.rs (l.length-1) 4 (Zcw (l.take (l.length-1)))]=some (.str (jAt (l.take (l.length-1)) (l.take (l.length-1)).length),H):=p7 () trivial
 have qp:∀s,s.length<=65536->∀H,Z05 Y00 O H 8 [.str s]=some (.tuple [(Z0A s).2.av,.agg [.int .i64 (Z0A s).1.1,.int .i64 (Z0A s).1.2]],H):=λs hs=>p1 s hs
 have q3:∀H,Z05 Y00 O H 7 []=some (.bool true,H):=p2 () trivial
 have q4:∀H,Z05 Y00 O H 10 [.str s]=some (.tuple [.rs (l.length+1) 4 (Zcw (l++[⟨5,[],0,s.length⟩])),.agg [.int .i64 0,.int .i64 0]],H):=p3 () trivial
 have q5:∀H,Z05 Y00 O H 11 [(Z0J s).av]=some (.int .i64 0,H):=p4 () trivial
 have q6:∀p q:Pr,okP p->∀H,Z05 Y00 O H 9 [p.av,q.av]=some (.bool (Zjl p q),H):=λp q h=>p5 (p,q) h
 have q7:∀n H,Z05 Y00 O H 12 [.int .i64 n,.int .i64 4]=some (.int .i64 (pickZ n 4),H):=λn=>p6 n trivial
 have ej:Zcw (l.take (l.length-1))=List.take ((l.length-1-0)*4) (List.drop (0*4) (Zcw (l++[⟨5,[],0,s.length⟩]))):=by
  rw[Nat.zero_mul,Y0p,Nat.sub_zero,tksC_take _ _ _ (by omega)]
 rw[ej]at qj
 clear p1 p2 p3 p4 p5 p6 p7 hAll hCk hR hJ
 have qa:=qp s (by omega)
 rw[hp]at qa
 have tw:=λ(gs:List (List UInt8)) h1 h2 h3=>tells_wide hs h hl (gs:=gs) (e:=⟨5,[],0,s.length⟩) rfl h1 h2 h3
 have tl:=λhne=>tells_less hs h hl hne
 generalize hP:Z0J s=P at *
 obtain⟨D,S⟩:=P
 simp only[Pr.av]at qa q5
 refine Z1z isTl 3 follows Z06 hO Tryz.func3 rfl ?_
 repeat' ((conv=>whnf);first|refine exI (Zdt _ _ _ _) ?_|refine exI (qa _) ?_|refine exI (q3 _) ?_|refine exI (q4 _) ?_|refine exI (q5 _) ?_|refine stp ?_|with_reducible apply Z01<;>intro h)
 conv=>whnf
 refine⟨Tls,(λy=>y.i<=l.length+1/\y.gs.length=y.i/\(∀g∈y.gs,g∈gapL)/\(wJ (l++[⟨5,[],0,s.length⟩]) y.gs).length<=y.i*65600),(λy=>[(1,.int .i64 y.n),(5,.ptr 0 0),(7,.rs (l.length+1) 4 (Zcw (l++[⟨5,[],0,s.length⟩]))),(9,.str (wJ (l++[⟨5,[],0,s.length⟩]) y.gs)),(10,.int .i64 (y.i:Nat))]),
  (λy=>[⟨true,0,0,.cells [.rs D.length 3 (dcC D),.rs S.length 1 (S.map stA)] 26⟩]),(λy=>l.length+1-y.i),⟨⟨0,[],n⟩,⟨Y06 _,rfl,(λg hg=>by cases hg),by simp[wJ]⟩,?_⟩,?_⟩
 · refine Y03 [0] rfl ?_ ?_ rfl
   · refine⟨Y01 rfl,Y05 rfl rfl,Y02 rfl,?_,Y01 rfl,trivial⟩
     have:wJ (l++[⟨5,[],0,s.length⟩]) []=[]:=by cases l<;>rfl
     rw[this];exact Y02 rfl
   ·exact⟨hbp,trivial⟩
 rintro⟨i,gs,b⟩ ⟨hi,hgl,hgs,hlen⟩
 dsimp only at hi hgl hgs hlen⊢
 have hL:(l++[(⟨5,[],0,s.length⟩:Tk)]).length=l.length+1:=by simp
 by_cases hlt:i<l.length+1
 · have e2:decide ((i:Int)<((l.length+1:Nat):Int))=true:=by simp;omega
   have hx:=tk4' (l++[(⟨5,[],0,s.length⟩:Tk)]) i (by omega)
   have hj:txAt (l++[(⟨5,[],0,s.length⟩:Tk)]) i=((l++[(⟨5,[],0,s.length⟩:Tk)])[i]'(by omega)).text:=by unfold txAt;rw[Y0i (by omega)]
   have hsn:=λg=>wJ_snoc (l++[(⟨5,[],0,s.length⟩:Tk)]) gs g (by omega)
   rw[hgl,hj]at hsn
   have htx:((l++[(⟨5,[],0,s.length⟩:Tk)])[i]'(by omega)).text.length<=4000:=by
    have hm:(l++[(⟨5,[],0,s.length⟩:Tk)])[i]'(by omega)∈l++[(⟨5,[],0,s.length⟩:Tk)]:=Y0r _
    rcases List.mem_append.1 hm with hm|hm
    ·have:=htl _ hm;omega
    ·rw[List.mem_singleton.1 hm];exact Y06 _
   generalize ((l++[(⟨5,[],0,s.length⟩:Tk)])[i]'(by omega)).text=tx at *
   have hi65:i*65600<=4001*65600:=Nat.mul_le_mul (by omega) (Y04 _)
   have c1:(wJ (l++[(⟨5,[],0,s.length⟩:Tk)]) gs).length+tx.length<=9223372036854775807:=by omega
   have c2:∀g:List UInt8,g.length<=11->(wJ (l++[(⟨5,[],0,s.length⟩:Tk)]) gs++tx).length+g.length<=9223372036854775807:=λg hg=>by rw[Y0l];omega
   have hG:∀g∈gapL,∀x∈gs++[g],x∈gapL:=λg hg x hx=>by
    rcases List.mem_append.1 hx with hx|hx
    ·exact hgs x hx
    ·rw[List.mem_singleton.1 hx];exact hg
   have hN:∀g:List UInt8,g.length<=11->(wJ (l++[⟨5,[],0,s.length⟩]) (gs++[g])).length<=(i+1)*65600:=λg hg=>by
    rw[hsn,Y0l,Y0l]
    omega
   have hE:∀g:List UInt8,wJ (l++[⟨5,[],0,s.length⟩]) gs++tx++g=wJ (l++[⟨5,[],0,s.length⟩]) (gs++[g]):=λg=>by rw[hsn,Y0w]
   have h4:(4:Int)≠0:=by decide
   have hw1:IntKind.i64.wrap ((i:Int)+1)=((i+1:Nat):Int):=by have:=Z7U (m:=i) (j:=1) (by omega);simpa using this
   have hz:=pickZ_in b (m:=4) (by decide)
   have q8:=q7 b
   have hcs:pickZ b 4=0\/pickZ b 4=1\/pickZ b 4=2\/pickZ b 4=3:=by omega
   clear q7 hsn hz
   rcases hcs with hz|hz|hz|hz
   all_goals (rw[hz]at q8)
   all_goals repeat' ((conv=>whnf);first|refine exI hx ?_|refine exI (q8 _) ?_|(refine Y07 c1 ?_)|(refine Y07 (c2 _ (by decide)) ?_)|(with_reducible refine ixJ i rfl ?_ ?_;focus omega)|(with_reducible refine ixJ 0 rfl ?_ ?_;(focus (decide)))|(with_reducible refine ixJ 1 rfl ?_ ?_;(focus (decide)))|(with_reducible refine ixJ 2 rfl ?_ ?_;(focus (decide)))|(with_reducible refine ixJ 3 rfl ?_ ?_;(focus (decide)))|(refine Y07 h4 ?_)|(refine exW hw1 ?_)|(refine exW rfl ?_)|refine stp ?_|with_reducible apply Z01<;>intro h)
   all_goals (conv=>whnf)
   · refine⟨⟨i+1,gs++[[32]],IntKind.i64.wrap (IntKind.i64.wrap (b.tdiv 4)+(i:Int))⟩,⟨hlt,by simp[hgl],hG _ (by simp[gapL]),hN _ (by decide)⟩,by show l.length+1-(i+1)<l.length+1-i;omega,Y03 [0] rfl ?sl ?bl rfl⟩
     case sl=>exact⟨Y01 rfl,Y05 rfl rfl,Y02 rfl,wkS (hE _),Y01 rfl,trivial⟩
     case bl=>exact⟨hbp,trivial⟩
   · refine⟨⟨i+1,gs++[[10]],IntKind.i64.wrap (IntKind.i64.wrap (b.tdiv 4)+(i:Int))⟩,⟨hlt,by simp[hgl],hG _ (by simp[gapL]),hN _ (by decide)⟩,by show l.length+1-(i+1)<l.length+1-i;omega,Y03 [0] rfl ?sl ?bl rfl⟩
     case sl=>exact⟨Y01 rfl,Y05 rfl rfl,Y02 rfl,wkS (hE _),Y01 rfl,trivial⟩
     case bl=>exact⟨hbp,trivial⟩
   · refine⟨⟨i+1,gs++[[9,32]],IntKind.i64.wrap (IntKind.i64.wrap (b.tdiv 4)+(i:Int))⟩,⟨hlt,by simp[hgl],hG _ (by simp[gapL]),hN _ (by decide)⟩,by show l.length+1-(i+1)<l.length+1-i;omega,Y03 [0] rfl ?sl ?bl rfl⟩
     case sl=>exact⟨Y01 rfl,Y05 rfl rfl,Y02 rfl,wkS (hE _),Y01 rfl,trivial⟩
     case bl=>exact⟨hbp,trivial⟩
   · refine⟨⟨i+1,gs++[[32,47,47,32,97,32,59,32,123,32,10]],IntKind.i64.wrap (IntKind.i64.wrap (b.tdiv 4)+(i:Int))⟩,⟨hlt,by simp[hgl],hG _ (by simp[gapL]),hN _ (by decide)⟩,by show l.length+1-(i+1)<l.length+1-i;omega,Y03 [0] rfl ?sl ?bl rfl⟩
     case sl=>exact⟨Y01 rfl,Y05 rfl rfl,Y02 rfl,wkS (hE _),Y01 rfl,trivial⟩
     case bl=>exact⟨hbp,trivial⟩
 · have hi':i=l.length+1:=by omega
   subst hi'
   have e2:decide (((l.length+1:Nat):Int)<((l.length+1:Nat):Int))=false:=by simp
   clear q7 htl
   generalize hW:wJ (l++[⟨5,[],0,s.length⟩]) gs=W at *
   by_cases hbig:65536<W.length
   · have e3:decide ((W.length:Int)>65536)=true:=by simp;omega
     repeat' ((conv=>whnf);first|refine stp ?_|with_reducible apply Z01<;>intro h)
     all_goals rfl
   · have e3:decide ((W.length:Int)>65536)=false:=by simp;omega
     have qw:=qp W (by omega)
     have hw:=tw gs hgl hgs (by rw[hW];omega)
     rw[hW]at hw
     rw[hw]at qw
     have q9:=q6 ⟨D,S⟩ ⟨D,S⟩ oP
     rw[Z9k]at q9
     simp only[Pr.av]at qw q9
     by_cases hl2:l.length+1<2
     · have e4:decide (((l.length+1:Nat):Int)<2)=true:=by simp;omega
       repeat' ((conv=>whnf);first|refine exI (Zdt _ _ _ _) ?_|refine exI (qw _) ?_|refine exI (q9 _) ?_|refine stp ?_|with_reducible apply Z01<;>intro h)
       all_goals rfl
     · have e4:decide (((l.length+1:Nat):Int)<2)=false:=by simp;omega
       repeat' ((conv=>whnf);first|refine exI (Zdt _ _ _ _) ?_|refine exI (qw _) ?_|refine exI (q9 _) ?_|refine stp ?_|with_reducible apply Z01<;>intro h)
       conv=>whnf
       refine⟨l.length-1,⟨by omega,by omega⟩,?_⟩
       have hne:l≠[]:=λe=>by rw[e]at hl2;exact hl2 (by decide)
       obtain⟨t1,t2⟩:=tl hne
       have qx:=qp _ t1
       have qy:=λq=>q6 q ⟨D,S⟩
       obtain⟨ox,sx⟩:=ZcR t1
       have xx:=λh=>Zh1 t1 h
       clear tw tl qp q6 qw q9 qa q5 q4 q3 hw
       generalize jAt (l.take (l.length-1)) (l.take (l.length-1)).length=V at *
       cases hv:okX V with
       |true =>
        have x1:=xx hv
        have x2:=t2 hv
        rw[x1]at qx ox
        have qz:=qy _ ox
        rw[x2]at qz
        simp only[Pr.av]at qx qz
        generalize Z0J V=PV at *
        obtain⟨dv,tv⟩:=PV
        simp only at qx qz
        repeat' ((conv=>whnf);first|refine exI (Zdt _ _ _ _) ?_|refine exI (qj _) ?_|refine exI (qx _) ?_|refine exI (qz _) ?_|refine stp ?_|with_reducible apply Z01<;>intro h)
        all_goals rfl
       |false =>
        unfold okX at hv
        have nv:=bnt hv
        generalize Z0A V=xv at *
        obtain⟨⟨ev,av⟩,⟨dv,tv⟩⟩:=xv
        simp only[Pr.av]at qx nv
        repeat' ((conv=>whnf);first|refine exI (Zdt _ _ _ _) ?_|refine exI (qj _) ?_|refine exI (qx _) ?_|refine stp ?_|with_reducible apply Z01<;>intro h)
        all_goals rfl
end Go.Proofs.YtneoiadnbikciaaGreatDoor.lex
namespace Go.Proofs.YtneoiadnbikciaaGreatDoor.tlLaw
open Go.Abs Go.RowKit
def Qs:List (AV->Prop):=[λu=>∃s:List UInt8,u = .str s/\s.length<=maxLen,λu=>∃n,u = .int .i64 n/\(Lit.int .i64 n).wf=true]
theorem opens:Z7R Y00 Tryz.f3.params.toList Qs:=by
 rw[Tryz.params3]
 exact⟨Z9p Tryz.underlying9,opensV_int Tryz.underlying3,trivial⟩
theorem law(us:List AV)(h:ZmZ Qs us):ValOK Y00 runLives.gl 3 us (.bool true):=by
 obtain⟨_,_,rfl,⟨a,rfl,ha⟩,h1⟩:=Zc1 h
 obtain⟨_,_,rfl,⟨b,rfl,hb⟩,h2⟩:=Zc1 h1
 cases Zkv h2
 by_cases h:a.length<=4000
 · cases hx:lex.okX a with
   |true=>exact lex.tl_ok a b h hx
   |false=>exact lex.tl_bad a b h hx
 ·exact lex.tl_big a b h
theorem solid:Solid Y00:=by unfold Solid;kernel_rfl
end Go.Proofs.YtneoiadnbikciaaGreatDoor.tlLaw
end

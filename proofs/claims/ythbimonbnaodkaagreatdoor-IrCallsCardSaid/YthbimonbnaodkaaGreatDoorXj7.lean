/-
  Texts of this proof, one behind the other (part 7).
-/
import Derived.Test.YthbimonbnaodkaaGreatDoorXj6
set_option linter.unusedVariables false
set_option linter.unusedSimpArgs false
set_option maxRecDepth 100000
set_option maxHeartbeats 4000000
open Nat renaming le_refl → Y00,zero_le → Y09,min_eq_left → Y0l,lt_succ_self → Y0A
open Go.Proofs.Tryz renaming prog → Y01,func55 → Y0y
open Go.Abs.FgL renaming mk → Y02
open Go.Abs.BodyGe renaming pre → Y03,z → Y0c,cellsL → Y0r
open And renaming intro → Y04
open Go.Abs.Wk renaming int → Y05,slice → Y06,noref → Y07,ptr → Y0b
open List renaming append_nil → Y08,length_cons → Y0a,take_length → Y0d,length_take → Y0f,nil_append → Y0g,length_nil → Y0h,mem_range → Y0i,take_zero → Y0j,length_append → Y0k,drop_zero → Y0m,mem_cons → Y0o,getElem_mem → Y0p,append_assoc → Y0q,map_nil → Y0s,map_cons → Y0u,foldl_cons → Y0v,getElem_cons_succ → Y0x,mem_append → Y0z,take_succ_cons → Y0C,length_drop → Y0D,getElem_cons_zero → Y0E,pairwise_cons → Y0F,range_succ → Y0G,take_succ_eq_append_getElem → Y0H,eq_nil_of_length_eq_zero → Y0I
open Go.Abs.FgLK renaming mkD → Y0e
open Bool renaming true_and → Y0n,eq_iff_iff → Y0w,false_ne_true → Y0B
open Int renaming toNat_natCast → Y0t
namespace Go.Proofs.YthbimonbnaodkaaGreatDoor.lex
open Go.Abs Go.RowKit
section
variable {gl:Z0o}
theorem Zek:∀(n:Nat)(e:Ex),Z0a e<=n->okE e->Z0a e<=1048576->ValOK Y01 gl 210 [.agg e.cells] (rsK (nmE e))
 |n,e,h,hok,hs=>by
  obtain⟨O,hO,p1,-⟩:=fams (P:=Y01) (gl:=gl) [{ I:=Ex,f:=210,G:=λx=>Z0a x<n/\okE x/\Z0a x<=1048576,A:=λx=>[.agg x.cells],R:=λx=>rsK (nmE x),body:=(by kernel_rfl),inj:=(λi j _ _ h=>by rw[Z3I h]),ok:=(λx hx=>⟨Z1l x,match n,hx.1 with|n+1,h=>Zek n x (by omega) hx.2.1 hx.2.2⟩) }] rfl
  have q1:∀x,Z0a x<n->okE x->Z0a x<=1048576->∀H,Z02 Y01 O H 210 [.agg x.cells]=some (.rs (nmE x).length 1 (Z19 (nmE x)),H):=λx h1 h2 h3=>p1 x ⟨h1,h2,h3⟩
  clear p1
  have hT:Z7e Y01 117 117=some (9,1,16):=by kernel_rfl
  obtain⟨op,num,name,kids⟩:=e
  have hk:=Z0S hok
  simp only[Ex.kids,Ex.name,okN]at hk
  have hnl:=Z48 (.mk op num name kids)
  simp only[Z0a]at h hs hnl
  simp only[nmE,Y0k]at hnl⊢
  simp only[Ex.cells,exA,rsK]
  refine Z4Q follows Z07 hO Tryz.func210 rfl ?_
  generalize hpre:(cond (op==2 && !(name==[])) [name] [])=pre at *
  cases ho:(op==2) with
  |false =>
   rw[ho]at hpre
   simp only[Bool.false_and,cond_false]at hpre
   repeat' ((conv=>whnf);first|refine stp ?_|with_reducible apply Z01<;>intro h)
   conv=>whnf
   refine⟨Nat,(λi=>i<=kids.length),(λi=>[(1,.ptr 0 0),(3,grA 1 1 (pre++nmL (kids.take i))),(4,.int .i64 i)]),(λi=>⟨true,0,0,.cells [.int .i64 op,.int .i64 num,.str name,.rs kids.length 4 (exC kids)] 69⟩::grB 1 Z19 9 (pre++nmL (kids.take i))),(λi=>kids.length-i),⟨0,Y09 _,?_⟩,?_⟩
   · subst hpre
     exact Y02 [0] rfl ⟨Y0b rfl rfl,Y07 rfl,Y05 rfl,trivial⟩ ⟨hbp,trivial⟩ rfl
   intro i hi
   dsimp only
   have hle:=Z2L kids i
   by_cases hlt:i<kids.length
   · have e1:decide ((i:Int)<(kids.length:Int))=true:=by simpa using hlt
     have hx:=ex4 kids i hlt
     have hsz:=Z0h _ _ (Z03 hlt)
     have hlr:=Z48 kids[i]
     have q2:=q1 kids[i] (by omega) (Z0k hk.2 _ (Z03 hlt)) (by omega)
     have hnx:pre++nmL (kids.take (i+1))=(pre++nmL (kids.take i))++nmE kids[i]:=by rw[Z5u kids i hlt,Y0q]
     have hlo:(pre++nmL (kids.take i)).length<=2097152:=by rw[Y0k];omega
     generalize pre++nmL (kids.take i)=o at *
     generalize hr:nmE kids[i]=r at *
     generalize kids[i]=x at *
     obtain⟨xo,xn,xs,xk⟩:=x
     simp only[Ex.cells]at hx q2
     cases o with
     |nil =>
      cases r with
      |nil =>
       repeat' ((conv=>whnf);first|with_reducible refine exI (q2 _) ?_|(with_reducible refine ixJ i rfl ?_ ?_;focus omega)|refine exI hx ?_|(refine apS ?_)|refine stp ?_|with_reducible apply Z01<;>intro h)
       conv=>whnf
       refine⟨i+1,hlt,by show kids.length-(i+1)<kids.length-i;omega,?_⟩
       rw[hnx]
       exact Y02 [0] rfl ⟨Y0b rfl rfl,Y07 rfl,Y05 rfl,trivial⟩ ⟨hbp,trivial⟩ rfl
      |cons y r =>
       simp only[Y0a]at hlr
       repeat' ((conv=>whnf);first|with_reducible refine exI (q2 _) ?_|(with_reducible refine ixJ i rfl ?_ ?_;focus omega)|refine exI hx ?_|(refine apS ?_)|refine stp ?_|with_reducible apply Z01<;>intro h)
       conv=>whnf
       refine⟨i+1,hlt,by show kids.length-(i+1)<kids.length-i;omega,?_⟩
       rw[hnx]
       exact Y02 [0,1] rfl ⟨Y0b rfl rfl,Y06 rfl rfl rfl (Y00 _) (Y00 _) rfl,Y05 rfl,trivial⟩ ⟨hbp,⟨rfl,rfl,rfl,rfl,Y03 (rest:=[]) (by simp[Z19]) (Z0r _)⟩,trivial⟩ rfl
     |cons z o =>
      have hcl:=Z1I z o
      simp only[Y0a]at hlo
      cases r with
      |nil =>
       repeat' ((conv=>whnf);first|with_reducible refine exI (q2 _) ?_|(with_reducible refine ixJ i rfl ?_ ?_;focus omega)|refine exI hx ?_|(refine apS ?_)|refine stp ?_|with_reducible apply Z01<;>intro h)
       conv=>whnf
       refine⟨i+1,hlt,by show kids.length-(i+1)<kids.length-i;omega,?_⟩
       rw[hnx,Y08]
       exact Y02 [0,1] rfl ⟨Y0b rfl rfl,Y06 rfl rfl rfl (Y00 _) (Y00 _) rfl,Y05 rfl,trivial⟩ ⟨hbp,⟨rfl,rfl,rfl,rfl,Y03 (rest:=[]) (by simp) (Z0r _)⟩,trivial⟩ rfl
      |cons y r =>
       have hon:=Z1H (y::r)
       simp only[Y0a]at hlr
       repeat' ((conv=>whnf);first|with_reducible refine exI (q2 _) ?_|(with_reducible refine ixJ i rfl ?_ ?_;focus omega)|refine exI hx ?_|(refine apS ?_)|refine stp ?_|with_reducible apply Z01<;>intro h)
       conv=>whnf
       refine⟨i+1,hlt,by show kids.length-(i+1)<kids.length-i;omega,?_⟩
       rw[hnx]
       exact Y02 [0,2] rfl ⟨Y0b rfl rfl,Y06 rfl rfl (by simp;omega) (Y00 _) (by simp;omega) rfl,Y05 rfl,trivial⟩ ⟨hbp,⟨rfl,rfl,rfl,rfl,Y03 (rest:=[]) (by simp[Z19]) (Z0r _)⟩,trivial⟩ rfl
   · have e1:decide ((i:Int)<(kids.length:Int))=false:=by simpa using hlt
     have hi2:i=kids.length:=by have:=hi;omega
     subst hi2
     rw[Y0d]at hle⊢
     generalize pre++nmL kids=o at *
     cases o with
     |nil =>
      repeat' ((conv=>whnf);first|refine stp ?_|with_reducible apply Z01<;>intro h)
      all_goals exact .inr ⟨rfl,_,rfl⟩
     |cons z o =>
      repeat' ((conv=>whnf);first|refine stp ?_|with_reducible apply Z01<;>intro h)
      conv=>whnf
      exact⟨_,Z1e (b:=1) rfl (Z1I z o) (Z4n (z::o)),.inl rfl⟩
  |true =>
   rw[ho]at hpre
   cases hs2:(name==[]) with
   |true =>
    rw[hs2]at hpre
    simp only[Bool.not_true,Bool.and_false,cond_false]at hpre
    have e2:(!(name==[]))=false:=by rw[hs2];rfl
    repeat' ((conv=>whnf);first|refine stp ?_|with_reducible apply Z01<;>intro h)
    conv=>whnf
    refine⟨Nat,(λi=>i<=kids.length),(λi=>[(1,.ptr 0 0),(3,grA 1 1 (pre++nmL (kids.take i))),(4,.int .i64 i)]),(λi=>⟨true,0,0,.cells [.int .i64 op,.int .i64 num,.str name,.rs kids.length 4 (exC kids)] 69⟩::grB 1 Z19 9 (pre++nmL (kids.take i))),(λi=>kids.length-i),⟨0,Y09 _,?_⟩,?_⟩
    · subst hpre
      exact Y02 [0] rfl ⟨Y0b rfl rfl,Y07 rfl,Y05 rfl,trivial⟩ ⟨hbp,trivial⟩ rfl
    intro i hi
    dsimp only
    have hle:=Z2L kids i
    by_cases hlt:i<kids.length
    · have e1:decide ((i:Int)<(kids.length:Int))=true:=by simpa using hlt
      have hx:=ex4 kids i hlt
      have hsz:=Z0h _ _ (Z03 hlt)
      have hlr:=Z48 kids[i]
      have q2:=q1 kids[i] (by omega) (Z0k hk.2 _ (Z03 hlt)) (by omega)
      have hnx:pre++nmL (kids.take (i+1))=(pre++nmL (kids.take i))++nmE kids[i]:=by rw[Z5u kids i hlt,Y0q]
      have hlo:(pre++nmL (kids.take i)).length<=2097152:=by rw[Y0k];omega
      generalize pre++nmL (kids.take i)=o at *
      generalize hr:nmE kids[i]=r at *
      generalize kids[i]=x at *
      obtain⟨xo,xn,xs,xk⟩:=x
      simp only[Ex.cells]at hx q2
      cases o with
      |nil =>
       cases r with
       |nil =>
        repeat' ((conv=>whnf);first|with_reducible refine exI (q2 _) ?_|(with_reducible refine ixJ i rfl ?_ ?_;focus omega)|refine exI hx ?_|(refine apS ?_)|refine stp ?_|with_reducible apply Z01<;>intro h)
        conv=>whnf
        refine⟨i+1,hlt,by show kids.length-(i+1)<kids.length-i;omega,?_⟩
        rw[hnx]
        exact Y02 [0] rfl ⟨Y0b rfl rfl,Y07 rfl,Y05 rfl,trivial⟩ ⟨hbp,trivial⟩ rfl
       |cons y r =>
        simp only[Y0a]at hlr
        repeat' ((conv=>whnf);first|with_reducible refine exI (q2 _) ?_|(with_reducible refine ixJ i rfl ?_ ?_;focus omega)|refine exI hx ?_|(refine apS ?_)|refine stp ?_|with_reducible apply Z01<;>intro h)
        conv=>whnf
        refine⟨i+1,hlt,by show kids.length-(i+1)<kids.length-i;omega,?_⟩
        rw[hnx]
        exact Y02 [0,1] rfl ⟨Y0b rfl rfl,Y06 rfl rfl rfl (Y00 _) (Y00 _) rfl,Y05 rfl,trivial⟩ ⟨hbp,⟨rfl,rfl,rfl,rfl,Y03 (rest:=[]) (by simp[Z19]) (Z0r _)⟩,trivial⟩ rfl
      |cons z o =>
       have hcl:=Z1I z o
       simp only[Y0a]at hlo
       cases r with
       |nil =>
        repeat' ((conv=>whnf);first|with_reducible refine exI (q2 _) ?_|(with_reducible refine ixJ i rfl ?_ ?_;focus omega)|refine exI hx ?_|(refine apS ?_)|refine stp ?_|with_reducible apply Z01<;>intro h)
        conv=>whnf
        refine⟨i+1,hlt,by show kids.length-(i+1)<kids.length-i;omega,?_⟩
        rw[hnx,Y08]
        exact Y02 [0,1] rfl ⟨Y0b rfl rfl,Y06 rfl rfl rfl (Y00 _) (Y00 _) rfl,Y05 rfl,trivial⟩ ⟨hbp,⟨rfl,rfl,rfl,rfl,Y03 (rest:=[]) (by simp) (Z0r _)⟩,trivial⟩ rfl
       |cons y r =>
        have hon:=Z1H (y::r)
        simp only[Y0a]at hlr
        repeat' ((conv=>whnf);first|with_reducible refine exI (q2 _) ?_|(with_reducible refine ixJ i rfl ?_ ?_;focus omega)|refine exI hx ?_|(refine apS ?_)|refine stp ?_|with_reducible apply Z01<;>intro h)
        conv=>whnf
        refine⟨i+1,hlt,by show kids.length-(i+1)<kids.length-i;omega,?_⟩
        rw[hnx]
        exact Y02 [0,2] rfl ⟨Y0b rfl rfl,Y06 rfl rfl (by simp;omega) (Y00 _) (by simp;omega) rfl,Y05 rfl,trivial⟩ ⟨hbp,⟨rfl,rfl,rfl,rfl,Y03 (rest:=[]) (by simp[Z19]) (Z0r _)⟩,trivial⟩ rfl
    · have e1:decide ((i:Int)<(kids.length:Int))=false:=by simpa using hlt
      have hi2:i=kids.length:=by have:=hi;omega
      subst hi2
      rw[Y0d]at hle⊢
      generalize pre++nmL kids=o at *
      cases o with
      |nil =>
       repeat' ((conv=>whnf);first|refine stp ?_|with_reducible apply Z01<;>intro h)
       all_goals exact .inr ⟨rfl,_,rfl⟩
      |cons z o =>
       repeat' ((conv=>whnf);first|refine stp ?_|with_reducible apply Z01<;>intro h)
       conv=>whnf
       exact⟨_,Z1e (b:=1) rfl (Z1I z o) (Z4n (z::o)),.inl rfl⟩
   |false =>
    rw[hs2]at hpre
    simp only[Bool.not_false,Bool.and_true,cond_true]at hpre
    have e2:(!(name==[]))=true:=by rw[hs2];rfl
    repeat' ((conv=>whnf);first|(refine apS ?_)|refine stp ?_|with_reducible apply Z01<;>intro h)
    conv=>whnf
    refine⟨Nat,(λi=>i<=kids.length),(λi=>[(1,.ptr 0 0),(3,grA 1 1 (pre++nmL (kids.take i))),(4,.int .i64 i)]),(λi=>⟨true,0,0,.cells [.int .i64 op,.int .i64 num,.str name,.rs kids.length 4 (exC kids)] 69⟩::grB 1 Z19 9 (pre++nmL (kids.take i))),(λi=>kids.length-i),⟨0,Y09 _,?_⟩,?_⟩
    · subst hpre
      exact Y02 [0,2] rfl ⟨Y0b rfl rfl,Y06 rfl rfl rfl (Y00 _) (Y00 _) rfl,Y05 rfl,trivial⟩ ⟨hbp,hbp,trivial⟩ rfl
    intro i hi
    dsimp only
    have hle:=Z2L kids i
    by_cases hlt:i<kids.length
    · have e1:decide ((i:Int)<(kids.length:Int))=true:=by simpa using hlt
      have hx:=ex4 kids i hlt
      have hsz:=Z0h _ _ (Z03 hlt)
      have hlr:=Z48 kids[i]
      have q2:=q1 kids[i] (by omega) (Z0k hk.2 _ (Z03 hlt)) (by omega)
      have hnx:pre++nmL (kids.take (i+1))=(pre++nmL (kids.take i))++nmE kids[i]:=by rw[Z5u kids i hlt,Y0q]
      have hlo:(pre++nmL (kids.take i)).length<=2097152:=by rw[Y0k];omega
      generalize pre++nmL (kids.take i)=o at *
      generalize hr:nmE kids[i]=r at *
      generalize kids[i]=x at *
      obtain⟨xo,xn,xs,xk⟩:=x
      simp only[Ex.cells]at hx q2
      cases o with
      |nil =>
       cases r with
       |nil =>
        repeat' ((conv=>whnf);first|with_reducible refine exI (q2 _) ?_|(with_reducible refine ixJ i rfl ?_ ?_;focus omega)|refine exI hx ?_|(refine apS ?_)|refine stp ?_|with_reducible apply Z01<;>intro h)
        conv=>whnf
        refine⟨i+1,hlt,by show kids.length-(i+1)<kids.length-i;omega,?_⟩
        rw[hnx]
        exact Y02 [0] rfl ⟨Y0b rfl rfl,Y07 rfl,Y05 rfl,trivial⟩ ⟨hbp,trivial⟩ rfl
       |cons y r =>
        simp only[Y0a]at hlr
        repeat' ((conv=>whnf);first|with_reducible refine exI (q2 _) ?_|(with_reducible refine ixJ i rfl ?_ ?_;focus omega)|refine exI hx ?_|(refine apS ?_)|refine stp ?_|with_reducible apply Z01<;>intro h)
        conv=>whnf
        refine⟨i+1,hlt,by show kids.length-(i+1)<kids.length-i;omega,?_⟩
        rw[hnx]
        exact Y02 [0,1] rfl ⟨Y0b rfl rfl,Y06 rfl rfl rfl (Y00 _) (Y00 _) rfl,Y05 rfl,trivial⟩ ⟨hbp,⟨rfl,rfl,rfl,rfl,Y03 (rest:=[]) (by simp[Z19]) (Z0r _)⟩,trivial⟩ rfl
      |cons z o =>
       have hcl:=Z1I z o
       simp only[Y0a]at hlo
       cases r with
       |nil =>
        repeat' ((conv=>whnf);first|with_reducible refine exI (q2 _) ?_|(with_reducible refine ixJ i rfl ?_ ?_;focus omega)|refine exI hx ?_|(refine apS ?_)|refine stp ?_|with_reducible apply Z01<;>intro h)
        conv=>whnf
        refine⟨i+1,hlt,by show kids.length-(i+1)<kids.length-i;omega,?_⟩
        rw[hnx,Y08]
        exact Y02 [0,1] rfl ⟨Y0b rfl rfl,Y06 rfl rfl rfl (Y00 _) (Y00 _) rfl,Y05 rfl,trivial⟩ ⟨hbp,⟨rfl,rfl,rfl,rfl,Y03 (rest:=[]) (by simp) (Z0r _)⟩,trivial⟩ rfl
       |cons y r =>
        have hon:=Z1H (y::r)
        simp only[Y0a]at hlr
        repeat' ((conv=>whnf);first|with_reducible refine exI (q2 _) ?_|(with_reducible refine ixJ i rfl ?_ ?_;focus omega)|refine exI hx ?_|(refine apS ?_)|refine stp ?_|with_reducible apply Z01<;>intro h)
        conv=>whnf
        refine⟨i+1,hlt,by show kids.length-(i+1)<kids.length-i;omega,?_⟩
        rw[hnx]
        exact Y02 [0,2] rfl ⟨Y0b rfl rfl,Y06 rfl rfl (by simp;omega) (Y00 _) (by simp;omega) rfl,Y05 rfl,trivial⟩ ⟨hbp,⟨rfl,rfl,rfl,rfl,Y03 (rest:=[]) (by simp[Z19]) (Z0r _)⟩,trivial⟩ rfl
    · have e1:decide ((i:Int)<(kids.length:Int))=false:=by simpa using hlt
      have hi2:i=kids.length:=by have:=hi;omega
      subst hi2
      rw[Y0d]at hle⊢
      generalize pre++nmL kids=o at *
      cases o with
      |nil =>
       repeat' ((conv=>whnf);first|refine stp ?_|with_reducible apply Z01<;>intro h)
       all_goals exact .inr ⟨rfl,_,rfl⟩
      |cons z o =>
       repeat' ((conv=>whnf);first|refine stp ?_|with_reducible apply Z01<;>intro h)
       conv=>whnf
       exact⟨_,Z1e (b:=1) rfl (Z1I z o) (Z4n (z::o)),.inl rfl⟩
end
section
variable {gl:Z0o}
theorem Zbd:∀(l:List St)(i:Nat)(h:i<l.length),nmSL (l.take (i+1))=nmSL (l.take i)++nmS l[i]
 |e::l,0,h=>by simp[nmSL]
 |e::l,i+1,h=>by
  have:=Zbd l i (by simpa using h)
  simp only[Y0C,nmSL,Y0x]at this⊢
  rw[this,Y0q]
theorem Z4B:∀(l:List St)(i:Nat),sizeSL (l.take i)<=sizeSL l
 |[],i=>by simp
 |e::l,0=>by simp[sizeSL]
 |e::l,i+1=>by have:=Z4B l i;simp only[Y0C,sizeSL];omega
theorem Z9M(l:List St)(i:Nat):(nmSL (l.take i)).length<=sizeSL l:=by
 have h1:=nmSL_len (l.take i)
 have h2:=Z4B l i
 omega
theorem ZnR(x:St):nmS x=(cond (!(x.name==[])) [x.name] [])++(nmL x.exprs++(nmSL x.thn++nmSL x.els)):=by
 obtain⟨k,n,lc,o,x,t,e⟩:=x
 rfl
theorem ZgZ:rsK [] = .rs 0 1 []:=rfl
theorem Zef(y:List UInt8)(r:List (List UInt8)):rsK (y::r) = .rs (r.length+1) 1 (Z19 (y::r)):=rfl
theorem ZiG:∀(n:Nat)(l:List St),sizeSL l<=n->okSL l->l.length<=9223372036854775807->sizeSL l<=1048576->ValOK Y01 gl 187 [stA l] (rsK (nmSL l))
 |n,l,h,hok,hl,hs=>by
  obtain⟨O,hO,p1,p2,-⟩:=fams (P:=Y01) (gl:=gl) [{ I:=List St,f:=187,G:=λl=>sizeSL l<n/\okSL l/\l.length<=9223372036854775807/\sizeSL l<=1048576,A:=λl=>[stA l],R:=λl=>rsK (nmSL l),body:=(by kernel_rfl),inj:=(λi j _ _ h=>by simp only[List.cons.injEq,and_true]at h;rw[ZlS h]),ok:=(λl hl=>⟨rfl,match n,hl.1 with|n+1,h=>ZiG n l (by omega) hl.2.1 hl.2.2.1 hl.2.2.2⟩) },
   { I:=Ex,f:=210,G:=λx=>okE x/\Z0a x<=1048576,A:=λx=>[.agg x.cells],R:=λx=>rsK (nmE x),body:=(by kernel_rfl),inj:=(λi j _ _ h=>by rw[Z3I h]),ok:=(λx hx=>⟨Z1l x,Zek _ x (Y00 _) hx.1 hx.2⟩) }] rfl
  have q1:∀l,sizeSL l<n->okSL l->l.length<=9223372036854775807->sizeSL l<=1048576->∀H,Z02 Y01 O H 187 [stA l]=some (rsK (nmSL l),H):=λl h1 h2 h3 h4=>p1 l ⟨h1,h2,h3,h4⟩
  have q2:∀x,okE x->Z0a x<=1048576->∀H,Z02 Y01 O H 210 [.agg x.cells]=some (rsK (nmE x),H):=λx h1 h2=>p2 x ⟨h1,h2⟩
  clear p1 p2
  have hT:Z7e Y01 117 117=some (9,1,16):=by kernel_rfl
  simp only[stA]at q1⊢
  rw[show rsK (nmSL l) = .rs (nmSL l).length 1 (Z19 (nmSL l)) from rfl]
  refine Z4Q follows Z07 hO Tryz.func187 rfl ?_
  repeat' ((conv=>whnf);first|refine stp ?_|with_reducible apply Z01<;>intro h)
  conv=>whnf
  refine⟨Nat,(λi=>i<=l.length),(λi=>[(0,.rs l.length 7 (stC l)),(3,grA 0 1 (nmSL (l.take i))),(4,.int .i64 i)]),(λi=>grB 0 Z19 9 (nmSL (l.take i))),(λi=>l.length-i),⟨0,Y09 _,?_⟩,?_⟩
  ·exact Y02 [] rfl ⟨Y07 rfl,Y07 rfl,Y05 rfl,trivial⟩ trivial rfl
  intro i hi
  dsimp only
  have hle:=Z9M l i
  by_cases hlt:i<l.length
  · have e1:decide ((i:Int)<(l.length:Int))=true:=by simpa using hlt
    have hsz:=Z8O _ _ (Z03 hlt)
    have hse:=Zjs l[i]
    have hx1:tk 1 (((stC l).drop (i*7)).drop 1)=some [.str l[i].name]:=by rw[ZaW l i hlt];exact Zol _ _
    have hx4:tk 1 (((stC l).drop (i*7)).drop 4)=some [exA l[i].exprs]:=by rw[ZaW l i hlt];exact Zoj _ _
    have hx5:tk 1 (((stC l).drop (i*7)).drop 5)=some [stA l[i].thn]:=by rw[ZaW l i hlt];exact Zok _ _
    have hx6:tk 1 (((stC l).drop (i*7)).drop 6)=some [stA l[i].els]:=by rw[ZaW l i hlt];exact Zom _ _
    obtain⟨k1,k2,k3,k4,k5,k6,k7,k8⟩:=Zhl (Zeu hok _ (Z03 hlt))
    have qt:=q1 l[i].thn (by omega) k7 k4 (by omega)
    have qe:=q1 l[i].els (by omega) k8 k5 (by omega)
    have hnt:=nmSL_len l[i].thn
    have hne:=nmSL_len l[i].els
    have hnx:nmSL (l.take (i+1))=((nmSL (l.take i)++cond (!(l[i].name==[])) [l[i].name] [])++nmL l[i].exprs)++(nmSL l[i].thn++nmSL l[i].els):=by
     rw[Zbd l i hlt,ZnR];simp only[Y0q]
    clear q1
    generalize nmSL (l.take i)=o at *
    generalize l[i]=x at *
    obtain⟨kind,name,loc,order,exprs,thn,els⟩:=x
    simp only[St.name,St.exprs,St.thn,St.els,stA,exA]at *
    generalize nmSL thn=nt at *
    generalize nmSL els=ne at *
    obtain⟨base,hbase⟩:∃b,o++cond (!(name==[])) [name] []=b:=⟨_,rfl⟩
    have hbl:base.length<=o.length+1:=by
     rw[<- hbase,Y0k]
     cases (!(name==[]))<;>simp
    rw[hbase]at hnx
    have hlx:=Z1q exprs
    have hin:∀k (hk:k<exprs.length),nmL (exprs.take (k+1))=nmL (exprs.take k)++nmE exprs[k]:=Z5u exprs
    have hil:=Z2L exprs
    have hnl:=nmL_len exprs
    have hfull:nmL (exprs.take exprs.length)=nmL exprs:=by rw[Y0d]
    have hclo:=Z2H o
    have hlo:=hle
    obtain⟨nb,e2⟩:∃b,(!(name==[]))=b:=⟨_,rfl⟩
    rw[e2]at hbase
    cases nb<;>rcases o with _|⟨z,o⟩<;>simp only[cond_true,cond_false,Y08,Y0a]at hbase hlo hclo
    all_goals
     repeat' ((conv=>whnf);first|(with_reducible refine ixJ i rfl ?_ ?_;focus omega)|refine exI hx1 ?_|refine exI hx4 ?_|(refine apS ?_)|refine stp ?_|with_reducible apply Z01<;>intro h)
     conv=>whnf
     refine⟨Nat,(λk=>k<=exprs.length),(λk=>[(0,.rs l.length 7 (stC l)),(3,grA 0 1 (base++nmL (exprs.take k))),(4,.int .i64 i),(5,.int .i64 k)]),(λk=>grB 0 Z19 9 (base++nmL (exprs.take k))),(λk=>exprs.length-k),⟨0,Y09 _,?_⟩,?_⟩
     · subst hbase
       simp only[Y0j,nmL,Y08]
       first|(exact Y02 [] rfl ⟨Y07 rfl,Y07 rfl,Y05 rfl,Y05 rfl,trivial⟩ trivial rfl)|(exact Y02 [0] rfl ⟨Y07 rfl,Y06 rfl rfl (by first|rfl|(simp;done)|(simp;omega)) (Y00 _) (by first|rfl|(simp;done)|(simp;omega)) rfl,Y05 rfl,Y05 rfl,trivial⟩ ⟨⟨rfl,rfl,rfl,rfl,Y03 (rest:=[]) (by first|rfl|(simp[Z19];done)) (Z0r _)⟩,trivial⟩ rfl)|(exact Y02 [1] rfl ⟨Y07 rfl,Y06 rfl rfl (by first|rfl|(simp;done)|(simp;omega)) (Y00 _) (by first|rfl|(simp;done)|(simp;omega)) rfl,Y05 rfl,Y05 rfl,trivial⟩ ⟨⟨rfl,rfl,rfl,rfl,Y03 (rest:=[]) (by first|rfl|(simp[Z19];done)) (Z0r _)⟩,trivial⟩ rfl)|(exact Y02 [2] rfl ⟨Y07 rfl,Y06 rfl rfl (by first|rfl|(simp;done)|(simp;omega)) (Y00 _) (by first|rfl|(simp;done)|(simp;omega)) rfl,Y05 rfl,Y05 rfl,trivial⟩ ⟨⟨rfl,rfl,rfl,rfl,Y03 (rest:=[]) (by first|rfl|(simp[Z19];done)) (Z0r _)⟩,trivial⟩ rfl)
     intro k hk
     dsimp only
     have hlk2:=hil k
     by_cases hlk:k<exprs.length
     · have e3:decide ((k:Int)<(exprs.length:Int))=true:=by simpa using hlk
       have hxk:=ex4 exprs k hlk
       have hlr:=Z48 exprs[k]
       have hsk:=Z0h _ _ (Z03 hlk)
       have q3:=q2 exprs[k] (Z0k k6 _ (Z03 hlk)) (by omega)
       have hnk:base++nmL (exprs.take (k+1))=(base++nmL (exprs.take k))++nmE exprs[k]:=by rw[hin k hlk,Y0q]
       have hlp:(base++nmL (exprs.take k)).length<=4194304:=by rw[Y0k];omega
       generalize base++nmL (exprs.take k)=p at *
       generalize nmE exprs[k]=r at *
       generalize exprs[k]=y at *
       obtain⟨yo,yn,ys,yk⟩:=y
       simp only[Ex.cells]at hxk q3
       have hcl:=Z2H p
       have hon:=Z1H r
       rcases p with _|⟨z2,p⟩<;>rcases r with _|⟨z3,r⟩<;>simp only[ZgZ,Zef,Y0a]at q3 hcl hlp hlr
       all_goals
        repeat' ((conv=>whnf);first|with_reducible refine exI (q3 _) ?_|(with_reducible refine ixJ i rfl ?_ ?_;focus omega)|(with_reducible refine ixJ k rfl ?_ ?_;focus omega)|refine exI hx4 ?_|refine exI hxk ?_|(refine apS ?_)|refine stp ?_|with_reducible apply Z01<;>intro h)
        conv=>whnf
        refine⟨k+1,hlk,by show exprs.length-(k+1)<exprs.length-k;omega,?_⟩
        rw[hnk]
        try rw[Y08]
        first|(exact Y02 [] rfl ⟨Y07 rfl,Y07 rfl,Y05 rfl,Y05 rfl,trivial⟩ trivial rfl)|(exact Y02 [0] rfl ⟨Y07 rfl,Y06 rfl rfl (by first|rfl|(simp;done)|(simp;omega)) (Y00 _) (by first|rfl|(simp;done)|(simp;omega)) rfl,Y05 rfl,Y05 rfl,trivial⟩ ⟨⟨rfl,rfl,rfl,rfl,Y03 (rest:=[]) (by first|rfl|(simp[Z19];done)) (Z0r _)⟩,trivial⟩ rfl)|(exact Y02 [1] rfl ⟨Y07 rfl,Y06 rfl rfl (by first|rfl|(simp;done)|(simp;omega)) (Y00 _) (by first|rfl|(simp;done)|(simp;omega)) rfl,Y05 rfl,Y05 rfl,trivial⟩ ⟨⟨rfl,rfl,rfl,rfl,Y03 (rest:=[]) (by first|rfl|(simp[Z19];done)) (Z0r _)⟩,trivial⟩ rfl)
     · have e3:decide ((k:Int)<(exprs.length:Int))=false:=by simpa using hlk
       have hk2:k=exprs.length:=by have:=hk;omega
       subst hk2
       rw[hfull]at hlk2⊢
       have hlp:(base++nmL exprs).length<=4194304:=by rw[Y0k];omega
       generalize base++nmL exprs=p at *
       have hnn:=Z1H nt
       have hne2:=Z1H ne
       have hcl:=Z2H p
       have hcl2:(Z19 p++Z19 nt).length=(p.length+nt.length)*1:=by simp[Z19]
       have hcl3:=Z2H nt
       rcases p with _|⟨z2,p⟩<;>rcases nt with _|⟨z3,nt⟩<;>rcases ne with _|⟨z4,ne⟩<;>simp only[ZgZ,Zef,Y0a]at qt qe hcl hlp hnt hne hcl2 hcl3
       all_goals
        repeat' ((conv=>whnf);first|with_reducible refine exI (qt _) ?_|with_reducible refine exI (qe _) ?_|(with_reducible refine ixJ i rfl ?_ ?_;focus omega)|refine exI hx4 ?_|refine exI hx5 ?_|refine exI hx6 ?_|(refine apS ?_)|refine stp ?_|with_reducible apply Z01<;>intro h)
        conv=>whnf
        refine⟨i+1,hlt,by show l.length-(i+1)<l.length-i;omega,?_⟩
        rw[hnx]
        try simp only[Y08,Y0g]
        first|(exact Y02 [] rfl ⟨Y07 rfl,Y07 rfl,Y05 rfl,trivial⟩ trivial rfl)|(exact Y02 [0] rfl ⟨Y07 rfl,Y06 rfl rfl (by first|rfl|(simp;done)|(simp;omega)) (Y00 _) (by first|rfl|(simp;done)|(simp;omega)) rfl,Y05 rfl,trivial⟩ ⟨⟨rfl,rfl,rfl,rfl,Y03 (rest:=[]) (by first|rfl|(simp[Z19];done)) (Z0r _)⟩,trivial⟩ rfl)|(exact Y02 [1] rfl ⟨Y07 rfl,Y06 rfl rfl (by first|rfl|(simp;done)|(simp;omega)) (Y00 _) (by first|rfl|(simp;done)|(simp;omega)) rfl,Y05 rfl,trivial⟩ ⟨⟨rfl,rfl,rfl,rfl,Y03 (rest:=[]) (by first|rfl|(simp[Z19];done)) (Z0r _)⟩,trivial⟩ rfl)|(exact Y02 [2] rfl ⟨Y07 rfl,Y06 rfl rfl (by first|rfl|(simp;done)|(simp;omega)) (Y00 _) (by first|rfl|(simp;done)|(simp;omega)) rfl,Y05 rfl,trivial⟩ ⟨⟨rfl,rfl,rfl,rfl,Y03 (rest:=[]) (by first|rfl|(simp[Z19];done)) (Z0r _)⟩,trivial⟩ rfl)
  · have e1:decide ((i:Int)<(l.length:Int))=false:=by simpa using hlt
    have hi2:i=l.length:=by have:=hi;omega
    subst hi2
    rw[Y0d]at hle⊢
    generalize nmSL l=o at *
    cases o with
    |nil =>
     repeat' ((conv=>whnf);first|refine stp ?_|with_reducible apply Z01<;>intro h)
     all_goals exact .inr ⟨rfl,_,rfl⟩
    |cons z o =>
     repeat' ((conv=>whnf);first|refine stp ?_|with_reducible apply Z01<;>intro h)
     conv=>whnf
     exact⟨_,Z1e (b:=0) rfl (Z1I z o) (Z4n (z::o)),.inl rfl⟩
end
section
variable {gl:Z0o}
theorem Zgj{H:Z00}{f c:Nat}{o:List (List UInt8)}{k:Nat}(hH:H[0]? = some ⟨true,f,0,.cells (Z19 o) 9⟩)(hk:k<=o.length):Z0U H 1 (.slice 0 0 k c 1)=some (k,Z19 (o.take k)):=by
 have h:tk (k*1) ((Z19 o).drop 0)=some (Z19 (o.take k)):=by
  have h1:Z19 o=Z19 (o.take k)++Z19 (o.drop k):=by rw[<- Zjo,List.take_append_drop]
  have h2:(Z19 (o.take k)).length=k*1:=by rw[Z2H,Y0f,Y0l hk]
  rw[Y0m,h1,<- h2];exact Z8I _ _
 simp only[Z0U,if_true,rd,hH,h]
theorem Zgk{H:Z00}{f c n:Nat}{o:List (List UInt8)}{k:Nat}(hH:H[0]? = some ⟨true,f,0,.cells (Z19 o) 9⟩)(hn:n=o.length):Z0U H 1 (.slice 0 (0+k*1) (n-k) c 1)=some (n-k,Z19 (o.drop k)):=by
 have h:tk ((n-k)*1) ((Z19 o).drop (0+k*1))=some (Z19 (o.drop k)):=by
  have h1:(Z19 o).drop (0+k*1)=Z19 (o.drop k):=by simp[Z19]
  rw[h1]
  exact Z6s (by rw[Z2H,Y0D,hn])
 simp only[Z0U,if_true,rd,hH,h]
theorem Zlx{H:Z00}{off n c:Nat}(h0:n=0){f:Nat}{cs:List AV}(hH:H[0]? = some ⟨true,f,0,.cells cs 9⟩):Z0U H 1 (.slice 0 off n c 1)=some (0,[]):=by
 subst h0
 have h:tk (0*1) (cs.drop off)=some []:=by cases (cs.drop off)<;>rfl
 simp only[Z0U,if_true,rd,hH,h]
theorem ZlY(l:List (List UInt8))(h:l.length<=1048576):ValOK Y01 gl 186 [rsK l] (rsK (Z3r l)):=by
 have hT:Z7e Y01 117 117=some (9,1,16):=by kernel_rfl
 rw[show rsK (Z3r l) = .rs (Z3r l).length 1 (Z19 (Z3r l)) from rfl,show rsK l = .rs l.length 1 (Z19 l) from rfl]
 refine Z4Q follows Z07 Z06 Tryz.func186 rfl ?_
 repeat' ((conv=>whnf);first|refine stp ?_|with_reducible apply Z01<;>intro h)
 conv=>whnf
 refine⟨Nat,(λi=>i<=l.length),(λi=>[(0,.rs l.length 1 (Z19 l)),(3,grA 0 1 (Z3r (l.take i))),(4,.int .i64 i)]),(λi=>grB 0 Z19 9 (Z3r (l.take i))),(λi=>l.length-i),⟨0,Y09 _,?_⟩,?_⟩
 ·exact Y02 [] rfl ⟨Y07 rfl,Y07 rfl,Y05 rfl,trivial⟩ trivial rfl
 intro i hi
 dsimp only
 have hle:=Z9D l i
 by_cases hlt:i<l.length
 · have e1:decide ((i:Int)<(l.length:Int))=true:=by simpa using hlt
   have hs:tk 1 ((Z19 l).drop (i*1))=some [.str l[i]]:=Z1Q AV.str l i hlt (by omega)
   have hnx:=ZgT l i hlt
   generalize Z3r (l.take i)=o at *
   generalize l[i]=s at *
   have hpl:=ZcQ s o
   rcases o with _|⟨z,o⟩
   ·
    repeat' ((conv=>whnf);first|(with_reducible refine ixJ i rfl ?_ ?_;focus omega)|refine exI hs ?_|(refine apS ?_)|refine stp ?_|with_reducible apply Z01<;>intro h)
    conv=>whnf
    refine⟨Nat,(λk=>k<=Z3P s ([]:List (List UInt8))),(λk=>[(0,.rs l.length 1 (Z19 l)),(3,grA 0 1 ([]:List (List UInt8))),(4,.int .i64 i),(5,.int .i64 k)]),(λk=>grB 0 Z19 9 ([]:List (List UInt8))),(λk=>Z3P s ([]:List (List UInt8))-k),⟨0,Y09 _,?_⟩,?_⟩
    ·exact Y02 [] rfl ⟨Y07 rfl,Y07 rfl,Y05 rfl,Y05 rfl,trivial⟩ trivial rfl
    intro k hk
    dsimp only
    have hk0:k=0:=by simpa[Z3P]using hk
    subst hk0
    repeat' ((conv=>whnf);first|(with_reducible refine ixJ i rfl ?_ ?_;focus omega)|refine exI hs ?_|(refine apS ?_)|refine stp ?_|with_reducible apply Z01<;>intro h)
    conv=>whnf
    refine⟨i+1,hlt,by show l.length-(i+1)<l.length-i;omega,?_⟩
    rw[hnx]
    exact Y02 [2] rfl ⟨Y07 rfl,Y06 rfl rfl rfl (Y00 _) (Y00 _) rfl,Y05 rfl,trivial⟩ ⟨hbp,trivial⟩ rfl
   · have hcl:=Z1I z o
     have hol:o.length+1<=l.length:=by simpa using hle
     repeat' ((conv=>whnf);first|(with_reducible refine ixJ i rfl ?_ ?_;focus omega)|refine exI hs ?_|refine stp ?_|with_reducible apply Z01<;>intro h)
     conv=>whnf
     refine⟨Nat,(λk=>k<=Z3P s (z::o)),(λk=>[(0,.rs l.length 1 (Z19 l)),(3,grA 0 1 (z::o)),(4,.int .i64 i),(5,.int .i64 k)]),(λk=>grB 0 Z19 9 (z::o)),(λk=>Z3P s (z::o)-k),⟨0,Y09 _,?_⟩,?_⟩
     ·exact Y02 [0] rfl ⟨Y07 rfl,Y06 rfl rfl rfl (Y00 _) (Y00 _) rfl,Y05 rfl,Y05 rfl,trivial⟩ ⟨⟨rfl,rfl,rfl,rfl,Y03 (rest:=[]) (by simp) (Z0r _)⟩,trivial⟩ rfl
     intro k hk
     dsimp only
     by_cases hlk:k<Z3P s (z::o)
     · have hkl:k<(z::o).length:=by omega
       have hob:=Zhb s (z::o) k hkl hlk
       have hg:tk 1 ((Z19 (z::o)).drop (0+k*1))=some [.str (z::o)[k]]:=Z1Q AV.str (z::o) k hkl (by omega)
       generalize (z::o)[k]=y at *
       simp only[Y0a]at hkl
       have e3:decide ((k:Int)<((o.length+1:Nat):Int))=true:=by simp;omega
       repeat' ((conv=>whnf);first|(with_reducible refine ixJ i rfl ?_ ?_;focus omega)|(with_reducible refine ixJ k rfl ?_ ?_;focus omega)|refine exI hs ?_|refine exI hg ?_|refine stp ?_|with_reducible apply Z01<;>intro h)
       conv=>whnf
       refine⟨k+1,hlk,by show Z3P s (z::o)-(k+1)<Z3P s (z::o)-k;omega,?_⟩
       exact Y02 [0] rfl ⟨Y07 rfl,Y06 rfl rfl rfl (Y00 _) (Y00 _) rfl,Y05 rfl,Y05 rfl,trivial⟩ ⟨⟨rfl,rfl,rfl,rfl,Y03 (rest:=[]) (by simp) (Z0r _)⟩,trivial⟩ rfl
     · have hk2:k=Z3P s (z::o):=by have:=hk;omega
       have hpa:=Zhc s (z::o)
       have hsame:=Zbt s (z::o)
       have hnew:=ZeI s (z::o)
       rw[<- hk2]at hpa hsame hnew
       by_cases hkl:k<(z::o).length
       · have hob:=hpa hkl
         have hsm:=hsame hkl
         have hnw:=hnew
         have hg:tk 1 ((Z19 (z::o)).drop (0+k*1))=some [.str (z::o)[k]]:=Z1Q AV.str (z::o) k hkl (by omega)
         have hkl2:k<o.length+1:=by simpa using hkl
         have e3:decide ((k:Int)<((o.length+1:Nat):Int))=true:=by simp;omega
         cases hys:((z::o)[k]==s) with
         |true =>
          rw[hsm hys]at hnx
          generalize (z::o)[k]=y at *
          repeat' ((conv=>whnf);first|(with_reducible refine ixJ i rfl ?_ ?_;focus omega)|(with_reducible refine ixJ k rfl ?_ ?_;focus omega)|refine exI hs ?_|refine exI hg ?_|refine stp ?_|with_reducible apply Z01<;>intro h)
          conv=>whnf
          refine⟨i+1,hlt,by show l.length-(i+1)<l.length-i;omega,?_⟩
          rw[hnx]
          exact Y02 [0] rfl ⟨Y07 rfl,Y06 rfl rfl rfl (Y00 _) (Y00 _) rfl,Y05 rfl,trivial⟩ ⟨⟨rfl,rfl,rfl,rfl,Y03 (rest:=[]) (by simp) (Z0r _)⟩,trivial⟩ rfl
         |false =>
          have hnx2:=hnx.trans (hnw λ_=>hys)
          generalize (z::o)[k]=y at *
          rcases k with _|k
          · simp only[Y0j,Y0m,Y0g]at hnx2
            have hxd:=λ(H:Z00) (f c:Nat) hH=>Zgk (H:=H) (f:=f) (c:=c) (n:=o.length+1) (o:=z::o) (k:=0) hH rfl
            repeat' ((conv=>whnf);first|(with_reducible refine ixJ i rfl ?_ ?_;focus omega)|(with_reducible refine ixJ 0 rfl ?_ ?_;focus omega)|refine exI hs ?_|refine exI hg ?_|(refine exI (Z1m hT (hxd _ _ _ rfl) rfl (Z34 ?_) ?_ ?_ ?_ ?_) ?_;(focus (simp[ZfY,ABody.len]));(focus (simp[Z19];try omega));(focus (exact Z1H _));(focus (omega));focus omega)|(refine apS ?_)|refine stp ?_|with_reducible apply Z01<;>intro h)
            conv=>whnf
            refine⟨i+1,hlt,by show l.length-(i+1)<l.length-i;omega,?_⟩
            rw[hnx2]
            refine Y02 [4] rfl ⟨Y07 rfl,Y06 rfl rfl ?_ (Y00 _) ?_ rfl,Y05 rfl,trivial⟩ ⟨⟨rfl,rfl,rfl,rfl,Y03 (rest:=[]) ?_ (Z0r _)⟩,trivial⟩ rfl
            all_goals first|(simp[Z19];done)|(simp;omega)
          · have hxt:=λ(H:Z00) (f c:Nat) hH=>Zgj (H:=H) (f:=f) (c:=c) (o:=z::o) (k:=k+1) hH (by simp;omega)
            have hxd:=λ(H:Z00) (f c:Nat) hH=>Zgk (H:=H) (f:=f) (c:=c) (n:=o.length+1) (o:=z::o) (k:=k+1) hH rfl
            have hct:(([]:List AV)++Z19 ((z::o).take (k+1))).length=(0+(k+1))*1:=by rw[Y0g,Z2H,Y0f,Y0l (by simp;omega)];omega
            repeat' ((conv=>whnf);first|(with_reducible refine ixJ i rfl ?_ ?_;focus omega)|(with_reducible refine ixJ (k+1) rfl ?_ ?_;focus omega)|refine exI hs ?_|refine exI hg ?_|(refine exI (Z1m hT (hxt _ _ _ rfl) rfl (Z34 ?_) ?_ ?_ ?_ ?_) ?_;(focus (simp[ZfY,ABody.len]));(focus (simp[Z19];try omega));(focus (exact Z1H _));(focus (omega));focus omega)|(refine exI (Z1m hT (hxd _ _ _ rfl) rfl (Z34 ?_) ?_ ?_ ?_ ?_) ?_;(focus (simp[ZfY,ABody.len]));(focus (simp[Z19];try omega));(focus (exact Z1H _));(focus (omega));focus omega)|(refine apS ?_)|refine stp ?_|with_reducible apply Z01<;>intro h)
            conv=>whnf
            refine⟨i+1,hlt,by show l.length-(i+1)<l.length-i;omega,?_⟩
            rw[hnx2]
            refine Y02 [5] rfl ⟨Y07 rfl,Y06 rfl rfl ?_ (Y00 _) ?_ rfl,Y05 rfl,trivial⟩ ⟨⟨rfl,rfl,rfl,rfl,Y03 (rest:=[]) ?_ (Z0r _)⟩,trivial⟩ rfl
            all_goals first|(simp[Z19];done)|(simp;omega)
       · have hkn : k = o.length + 1 := by
          have:=ZcQ s (z::o)
          simp only[Y0a]at this hkl
          omega
         have hnx2:=hnx.trans (hnew λh=>absurd h hkl)
         have e3:decide ((k:Int)<((o.length+1:Nat):Int))=false:=by simp;omega
         rcases k with _|k
         ·omega
         · have hxt:=λ(H:Z00) (f c:Nat) hH=>Zgj (H:=H) (f:=f) (c:=c) (o:=z::o) (k:=k+1) hH (by simp;omega)
           have hct:(([]:List AV)++Z19 ((z::o).take (k+1))).length=(0+(k+1))*1:=by rw[Y0g,Z2H,Y0f,Y0l (by simp;omega)];omega
           have hdr:(z::o).drop (k+1)=[]:=List.drop_eq_nil_of_le (by simp;omega)
           rw[hdr]at hnx2
           repeat' ((conv=>whnf);first|(with_reducible refine ixJ i rfl ?_ ?_;focus omega)|(with_reducible refine ixJ (k+1) rfl ?_ ?_;focus omega)|refine exI hs ?_|(refine exI (Z1m hT (hxt _ _ _ rfl) rfl (Z34 ?_) ?_ ?_ ?_ ?_) ?_;(focus (simp[ZfY,ABody.len]));(focus (simp[Z19];try omega));(focus (exact Z1H _));(focus (omega));focus omega)|refine exI (Z2q hT (Zlx (by omega) rfl)) ?_|(refine apS ?_)|refine stp ?_|with_reducible apply Z01<;>intro h)
           conv=>whnf
           refine⟨i+1,hlt,by show l.length-(i+1)<l.length-i;omega,?_⟩
           rw[hnx2]
           refine Y02 [4] rfl ⟨Y07 rfl,Y06 rfl rfl ?_ (Y00 _) ?_ rfl,Y05 rfl,trivial⟩ ⟨⟨rfl,rfl,rfl,rfl,Y03 (rest:=[]) ?_ (Z0r _)⟩,trivial⟩ rfl
           all_goals first|(simp[Z19];done)|(simp;omega)
 · have e1:decide ((i:Int)<(l.length:Int))=false:=by simpa using hlt
   have hi2:i=l.length:=by have:=hi;omega
   subst hi2
   rw[Y0d]at hle⊢
   generalize Z3r l=o at *
   cases o with
   |nil =>
    repeat' ((conv=>whnf);first|refine stp ?_|with_reducible apply Z01<;>intro h)
    all_goals exact .inr ⟨rfl,_,rfl⟩
   |cons z o =>
    repeat' ((conv=>whnf);first|refine stp ?_|with_reducible apply Z01<;>intro h)
    conv=>whnf
    exact⟨_,Z1e (b:=0) rfl (Z1I z o) (Z4n (z::o)),.inl rfl⟩
theorem ZjC(l:List St)(hok:okSL l)(hl:l.length<=9223372036854775807)(h:sizeSL l<=900000):ValOK Y01 gl 144 [stA l] (rsK (Z3r (nmSL l))):=by
 have hlen:=nmSL_len l
 obtain⟨O,hO,p1,p2,-⟩:=fams (P:=Y01) (gl:=gl) [{ I:=Unit,f:=187,G:=(λ_=>True),A:=(λ_=>[stA l]),R:=(λ_=>rsK (nmSL l)),body:=(by kernel_rfl),inj:=(λ_ _ _ _ _=>rfl),ok:=(λ_ _=>⟨rfl,ZiG _ l (Y00 _) hok hl (by omega)⟩) },
  { I:=Unit,f:=186,G:=(λ_=>True),A:=(λ_=>[rsK (nmSL l)]),R:=(λ_=>rsK (Z3r (nmSL l))),body:=(by kernel_rfl),inj:=(λ_ _ _ _ _=>rfl),ok:=(λ_ _=>⟨rfl,ZlY _ (by omega)⟩) }] rfl
 have q1:∀H,Z02 Y01 O H 187 [stA l]=some (rsK (nmSL l),H):=p1 () trivial
 have q2:∀H,Z02 Y01 O H 186 [rsK (nmSL l)]=some (rsK (Z3r (nmSL l)),H):=p2 () trivial
 simp only[stA,rsK]at q1 q2⊢
 refine Z05 follows Z07 hO Tryz.func144 rfl ?_
 repeat' ((conv=>whnf);first|refine exI (q1 _) ?_|refine exI (q2 _) ?_|refine stp ?_|with_reducible apply Z01<;>intro h)
 all_goals rfl
end
end Go.Proofs.YthbimonbnaodkaaGreatDoor.lex
section
namespace Go.Proofs.YthbimonbnaodkaaGreatDoor.lex
open Go.Abs Go.RowKit Go.Flat
variable {gl:Z0o}
theorem Zi5 {P : Program} {gl : Z0o} {orc : Orc} (hm : P.follows .mixedOrders = true) (hn : NoNum P) (hO : OrcSound P gl orc) {f : Nat} {fn : Func} {c : Code} {args : List AV} {r : AV}
  (hf:P.funcs[f]? = some fn) (hc:fn.body=some c) (h:Z0F (tmk (Z8K args fn.ntmps args.length) (Zaz 20 fn.ntmps)) λtm=>Z1G P gl orc (cw0 P orc) (Z8A 0) c (Zd6 P fn.results.toList λr'=>r'=r\/wkV r' r=true) (λ_ _ _=>False) (Zd6 P fn.results.toList λr'=>r'=r\/wkV r' r=true) tm []):ValOK P gl f args r :=
 fn_valX hm hn hO (λr' hr sn v hv=>by rcases hr with rfl|hr;exact hv;exact ZaD _ _ _ hr hv) hf hc (Z85 P orc) h
theorem ZiI(k:Int):ValOK Y01 gl 89 [.int .i64 k] (.bool (Z3o k)):=by
 refine Z05 follows Z07 Z06 Tryz.func89 rfl ?_
 repeat' ((conv=>whnf);first|refine stp ?_|with_reducible apply Z01<;>intro h)
 all_goals (show AV.bool _=AV.bool _;congr 1;unfold Z3o;(first|(simp_all;done)|(simp_all;omega)|(rw[Y0w];simp_all;omega)))
def Zla(k:Int):Int:=if 1<=k/\k<=13 then ZiZ k else -1
theorem ZnS(k:Int):ValOK Y01 gl 113 [.int .i64 k] (.int .i64 (Zla k)):=by
 refine Z05 follows Z07 Z06 Tryz.func113 rfl ?_
 repeat' ((conv=>whnf);first|refine stp ?_|with_reducible apply Z01<;>intro h)
 all_goals (show AV.int _ _=AV.int _ _;congr 1;unfold Zla ZiZ;simp only[beq_iff_eq,beq_eq_false_iff_ne]at *;(repeat' split)<;>omega)
theorem ZcD(k:Int):ValOK Y01 gl 88 [.int .i64 k] (.bool (Z0R k)):=by
 obtain⟨O,hO,p1,-⟩:=fams (P:=Y01) (gl:=gl) [{ I:=Unit,f:=89,G:=λ_=>True,A:=λ_=>[.int .i64 k],R:=λ_=>.bool (Z3o k),body:=(by kernel_rfl),inj:=λ_ _ _ _ _=>rfl,ok:=λ_ _=>⟨rfl,ZiI _⟩ }] rfl
 have q1:∀H,Z02 Y01 O H 89 [.int .i64 k]=some (.bool (Z3o k),H):=p1 () trivial
 clear p1
 have hs:Z0R k=(k==1 || (Z3o k&&(k != 3))):=by
  unfold Z0R Z3o
  rw[Y0w];simp;omega
 rw[hs]
 clear hs
 generalize Z3o k=a at *
 refine Z05 follows Z07 hO Tryz.func88 rfl ?_
 cases a<;>(repeat' ((conv=>whnf);first|refine exI (q1 _) ?_|refine stp ?_|with_reducible apply Z01<;>intro h))
 all_goals (show AV.bool _=AV.bool _;congr 1;clear q1;simp_all)
theorem Z6a:∀l:List Ex,(exC l).all Go.Abs.one=true
 |[]=>by simp only[exC];rfl
 | .mk _ _ _ _::l=>by simp only[exC,Ex.cells,List.all_append,Z6a l,Bool.and_true];rfl
theorem Z2m:∀l:List Ex,(exC l).all ZbA=true
 |[]=>by simp only[exC];rfl
 | .mk _ _ _ _::l=>by simp only[exC,Ex.cells,List.all_append,Z2m l,Bool.and_true];rfl
theorem Z5G(l:List Ex):refsL (exC l) []=[]:=Z1S (ZeS (Z2m l))
theorem Z22(e:Ex)(l:List Ex):(exC (e::l)).length=(l.length+1)*4:=by rw[Z6b];rfl
theorem wk4{k1 k2:IntKind}{a b:Int}{s:List UInt8}:wkV (.agg [.int k1 a,.int k2 b,.str s,.nslice]) (.agg [.int k1 a,.int k2 b,.str s,.rs 0 4 []])=true:=by simp[wkV,wkVL,veq]
theorem Z5y{H:Z00}{n:Nat}{a b c d a' b' c' d':AV}(h1:frz H n a=some a')(h2:frz H n b=some b')(h3:frz H n c=some c')(h4:frz H n d=some d'):frz H (n+1) (.agg [a,b,c,d])=some (.agg [a',b',c',d']):=by
 show (match Z0T (frz H n) [a,b,c,d] with|some l=>some (AV.agg l)|none=>none)=_
 simp only[Z0T,h1,h2,h3,h4]
theorem Z9Q:∀(n:Nat)(e:Ex),Z0a e<=n->okE e->Z0a e<=1048576->ValOK Y01 gl 64 [.agg e.cells,.str [114]] (.agg (Z1b e).cells)
 |n,e,h,hok,hs=>by
  have hinj:∀x y:Ex,(Z0a x<n/\okE x/\Z0a x<=1048576)->(Z0a y<n/\okE y/\Z0a y<=1048576)->[AV.agg x.cells,.str [114]]=[AV.agg y.cells,.str [114]]->AV.agg (Z1b x).cells = .agg (Z1b y).cells:=λx y _ _ h=>by
   simp only[List.cons.injEq,AV.agg.injEq,and_true]at h
   rw[Z0M _ _ h]
  obtain⟨O,hO,p1,p2,-⟩:=fams (P:=Y01) (gl:=gl) [{ I:=Ex,f:=64,G:=λx=>Z0a x<n/\okE x/\Z0a x<=1048576,A:=λx=>[.agg x.cells,.str [114]],R:=λx=>.agg (Z1b x).cells,body:=(by kernel_rfl),inj:=hinj,ok:=(λx hx=>⟨by obtain⟨o,m,s,k⟩:=x;simp only[Ex.cells];rfl,match n,hx.1 with|n+1,h=>Z9Q n x (by omega) hx.2.1 hx.2.2⟩) },
   { I:=List UInt8,f:=100,G:=λs=>s.length<=9223372036854775807,A:=λs=>[.str s],R:=λs=>.int .i64 (Z1c s),body:=(by kernel_rfl),inj:=(λi j _ _ h=>by simp only[List.cons.injEq,AV.str.injEq,and_true]at h;rw[h]),ok:=λs hs=>⟨rfl,Zho s hs⟩ }] rfl
  have q1:∀x,Z0a x<n->okE x->Z0a x<=1048576->∀H,Z02 Y01 O H 64 [.agg x.cells,.str [114]]=some (.agg (Z1b x).cells,H):=λx h1 h2 h3=>p1 x ⟨h1,h2,h3⟩
  have q2:∀s,s.length<=9223372036854775807->∀H,Z02 Y01 O H 100 [.str s]=some (.int .i64 (Z1c s),H):=p2
  clear p1 p2 hinj
  have hT:Z7e Y01 35 35=some (69,4,56):=by kernel_rfl
  obtain⟨op,num,name,kids⟩:=e
  have hk:=Z0S hok
  simp only[Ex.kids,Ex.name,okN]at hk
  simp only[Z0a]at h hs
  have q2':=q2 name hk.1.1
  clear q2
  simp only[Ex.cells,Z1b]at *
  have hcase:((op==2)=true/\decide (Z1c name >= 0)=true/\(if op=2 then Z8Z name else name)=[114]++name/\name.length<=4)\/((op==2)=true/\decide (Z1c name >= 0)=false/\(if op=2 then Z8Z name else name)=[48])\/((op==2)=false/\(if op=2 then Z8Z name else name)=name):=by
   by_cases h2:op=2
   · subst h2
     by_cases h3:0<=Z1c name
     ·exact .inl ⟨rfl,by simpa using h3,by simp[Z8Z,h3],Z9R name h3⟩
     ·exact .inr (.inl ⟨rfl,by simpa using h3,by simp[Z8Z,h3]⟩)
   ·exact .inr (.inr ⟨by simpa using h2,by simp[h2]⟩)
  generalize hnm:(if op=2 then Z8Z name else name)=nm at *
  clear hnm
  generalize Z1c name=ns at *
  rw[Z12]
  refine Zi5 follows Z07 hO Tryz.func64 rfl ?_
  rcases hcase with ⟨o1,o2,rfl,o3⟩|⟨o1,o2,rfl⟩|⟨o1,rfl⟩
  case inl =>
   repeat' ((conv=>whnf);first|with_reducible refine exI (q2' _) ?_|(refine Y04 (show _<=(9223372036854775807:Nat) by simp;omega) ?_)|refine stp ?_|with_reducible apply Z01<;>intro h)
   conv=>whnf
   refine⟨Nat,(λi=>i<=kids.length),(λi=>[(1,.str [114]),(2,.ptr 0 0),(4,.ptr 1 0),(5,.ptr 2 0),(6,.int .i64 i)]),(λi=>⟨true,0,0,.cells [.int .i64 op,.int .i64 num,.str name,.rs kids.length 4 (exC kids)] 69⟩::⟨true,1,0,.cells [.int .i64 0,.int .i64 0,.str [],.nslice] 69⟩::⟨true,2,0,.cells [.int .i64 op,.int .i64 num,.str ([114]++name),grA 3 4 (namL (kids.take i))] 69⟩::grB 3 exC 69 (namL (kids.take i))),(λi=>kids.length-i),⟨0,Y09 _,?_⟩,?_⟩
   · simp only[Y0j,namL]
     refine Y02 [0,1,2] rfl ?_ ⟨hbp,hbp,hbp,trivial⟩ rfl
     exact wks
   intro i hi
   dsimp only
   by_cases hlt:i<kids.length
   · have e1:decide ((i:Int)<(kids.length:Int))=true:=by simpa using hlt
     have hx:=ex4 kids i hlt
     have hsz:=Z0h _ _ (Z03 hlt)
     have hkl:=Z1q kids
     have q3:=q1 kids[i] (by omega) (Z0k hk.2 _ (Z03 hlt)) (by omega)
     have hnx:=Z3g kids i hlt
     have hol:(namL (kids.take i)).length<=1048576:=by rw[Z12,Y0f];omega
     clear q1 q2' hsz
     generalize namL (kids.take i)=o at *
     generalize Z1b kids[i]=y at *
     generalize kids[i]=x at *
     obtain⟨xo,xn,xs,xk⟩:=x
     obtain⟨yo,yn,ys,yk⟩:=y
     simp only[Ex.cells]at hx q3
     cases o with
     |nil =>
      repeat' ((conv=>whnf);first|with_reducible refine exI (q3 _) ?_|(with_reducible refine ixJ i rfl ?_ ?_;focus omega)|refine exI hx ?_|(refine apS ?_)|refine stp ?_|with_reducible apply Z01<;>intro h)
      conv=>whnf
      refine⟨i+1,hlt,by show kids.length-(i+1)<kids.length-i;omega,?_⟩
      rw[hnx]
      refine Y02 [0,1,2,4] rfl ?_ ⟨hbp,hbp,⟨rfl,rfl,rfl,rfl,Y0r ⟨Y05 rfl,Y05 rfl,Y07 rfl,Y06 rfl rfl rfl (Y00 _) (Y00 _) rfl,trivial⟩⟩,hbp,trivial⟩ rfl
      exact wks
     |cons z o =>
      have hcl:=Z22 z o
      have hon:=Z6a (z::o)
      simp only[Y0a]at hol
      repeat' ((conv=>whnf);first|with_reducible refine exI (q3 _) ?_|(with_reducible refine ixJ i rfl ?_ ?_;focus omega)|refine exI hx ?_|(refine apS ?_)|refine stp ?_|with_reducible apply Z01<;>intro h)
      conv=>whnf
      refine⟨i+1,hlt,by show kids.length-(i+1)<kids.length-i;omega,?_⟩
      rw[hnx]
      refine Y02 [0,1,2,5] rfl ?_ ⟨hbp,hbp,⟨rfl,rfl,rfl,rfl,Y0r ⟨Y05 rfl,Y05 rfl,Y07 rfl,Y06 rfl rfl (by simp) (Y00 _) (by simp) rfl,trivial⟩⟩,⟨rfl,rfl,rfl,rfl,Y03 (rest:=[]) (by show _=exC ((z::o)++[Ex.mk yo yn ys yk])++[];rw[Z4T,Y08];simp only[exC,Ex.cells,Y08]) (Z5G _)⟩,trivial⟩ rfl
      exact wks
   · have e1:decide ((i:Int)<(kids.length:Int))=false:=by simpa using hlt
     have hi2:i=kids.length:=by have:=hi;omega
     subst hi2
     have hol:(namL kids).length=kids.length:=Z12 kids
     rw[Y0d]
     rw[<- hol]
     clear q1 q2'
     generalize namL kids=o at *
     cases o with
     |nil =>
      rw[<- hol]at *
      repeat' ((conv=>whnf);first|refine stp ?_|with_reducible apply Z01<;>intro h)
      all_goals (conv=>whnf)
      all_goals exact .inr wk4
     |cons z o =>
      repeat' ((conv=>whnf);first|refine stp ?_|with_reducible apply Z01<;>intro h)
      all_goals (conv=>whnf)
      all_goals exact⟨_,Z5y (n:=29) rfl rfl rfl (Z1h (n:=27) (b:=3) rfl (Z22 z o) (Z2m _)),.inl rfl⟩
  case inr.inl =>
   repeat' ((conv=>whnf);first|with_reducible refine exI (q2' _) ?_|(refine Y04 (show _<=(9223372036854775807:Nat) by simp;omega) ?_)|refine stp ?_|with_reducible apply Z01<;>intro h)
   conv=>whnf
   refine⟨Nat,(λi=>i<=kids.length),(λi=>[(1,.str [114]),(2,.ptr 0 0),(4,.ptr 1 0),(5,.ptr 2 0),(6,.int .i64 i)]),(λi=>⟨true,0,0,.cells [.int .i64 op,.int .i64 num,.str name,.rs kids.length 4 (exC kids)] 69⟩::⟨true,1,0,.cells [.int .i64 0,.int .i64 0,.str [],.nslice] 69⟩::⟨true,2,0,.cells [.int .i64 op,.int .i64 num,.str ([48]),grA 3 4 (namL (kids.take i))] 69⟩::grB 3 exC 69 (namL (kids.take i))),(λi=>kids.length-i),⟨0,Y09 _,?_⟩,?_⟩
   · simp only[Y0j,namL]
     refine Y02 [0,1,2] rfl ?_ ⟨hbp,hbp,hbp,trivial⟩ rfl
     exact wks
   intro i hi
   dsimp only
   by_cases hlt:i<kids.length
   · have e1:decide ((i:Int)<(kids.length:Int))=true:=by simpa using hlt
     have hx:=ex4 kids i hlt
     have hsz:=Z0h _ _ (Z03 hlt)
     have hkl:=Z1q kids
     have q3:=q1 kids[i] (by omega) (Z0k hk.2 _ (Z03 hlt)) (by omega)
     have hnx:=Z3g kids i hlt
     have hol:(namL (kids.take i)).length<=1048576:=by rw[Z12,Y0f];omega
     clear q1 q2' hsz
     generalize namL (kids.take i)=o at *
     generalize Z1b kids[i]=y at *
     generalize kids[i]=x at *
     obtain⟨xo,xn,xs,xk⟩:=x
     obtain⟨yo,yn,ys,yk⟩:=y
     simp only[Ex.cells]at hx q3
     cases o with
     |nil =>
      repeat' ((conv=>whnf);first|with_reducible refine exI (q3 _) ?_|(with_reducible refine ixJ i rfl ?_ ?_;focus omega)|refine exI hx ?_|(refine apS ?_)|refine stp ?_|with_reducible apply Z01<;>intro h)
      conv=>whnf
      refine⟨i+1,hlt,by show kids.length-(i+1)<kids.length-i;omega,?_⟩
      rw[hnx]
      refine Y02 [0,1,2,4] rfl ?_ ⟨hbp,hbp,⟨rfl,rfl,rfl,rfl,Y0r ⟨Y05 rfl,Y05 rfl,Y07 rfl,Y06 rfl rfl rfl (Y00 _) (Y00 _) rfl,trivial⟩⟩,hbp,trivial⟩ rfl
      exact wks
     |cons z o =>
      have hcl:=Z22 z o
      have hon:=Z6a (z::o)
      simp only[Y0a]at hol
      repeat' ((conv=>whnf);first|with_reducible refine exI (q3 _) ?_|(with_reducible refine ixJ i rfl ?_ ?_;focus omega)|refine exI hx ?_|(refine apS ?_)|refine stp ?_|with_reducible apply Z01<;>intro h)
      conv=>whnf
      refine⟨i+1,hlt,by show kids.length-(i+1)<kids.length-i;omega,?_⟩
      rw[hnx]
      refine Y02 [0,1,2,5] rfl ?_ ⟨hbp,hbp,⟨rfl,rfl,rfl,rfl,Y0r ⟨Y05 rfl,Y05 rfl,Y07 rfl,Y06 rfl rfl (by simp) (Y00 _) (by simp) rfl,trivial⟩⟩,⟨rfl,rfl,rfl,rfl,Y03 (rest:=[]) (by show _=exC ((z::o)++[Ex.mk yo yn ys yk])++[];rw[Z4T,Y08];simp only[exC,Ex.cells,Y08]) (Z5G _)⟩,trivial⟩ rfl
      exact wks
   · have e1:decide ((i:Int)<(kids.length:Int))=false:=by simpa using hlt
     have hi2:i=kids.length:=by have:=hi;omega
     subst hi2
     have hol:(namL kids).length=kids.length:=Z12 kids
     rw[Y0d]
     rw[<- hol]
     clear q1 q2'
     generalize namL kids=o at *
     cases o with
     |nil =>
      rw[<- hol]at *
      repeat' ((conv=>whnf);first|refine stp ?_|with_reducible apply Z01<;>intro h)
      all_goals (conv=>whnf)
      all_goals exact .inr wk4
     |cons z o =>
      repeat' ((conv=>whnf);first|refine stp ?_|with_reducible apply Z01<;>intro h)
      all_goals (conv=>whnf)
      all_goals exact⟨_,Z5y (n:=29) rfl rfl rfl (Z1h (n:=27) (b:=3) rfl (Z22 z o) (Z2m _)),.inl rfl⟩
  case inr.inr =>
   repeat' ((conv=>whnf);first|with_reducible refine exI (q2' _) ?_|(refine Y04 (show _<=(9223372036854775807:Nat) by simp;omega) ?_)|refine stp ?_|with_reducible apply Z01<;>intro h)
   conv=>whnf
   refine⟨Nat,(λi=>i<=kids.length),(λi=>[(1,.str [114]),(2,.ptr 0 0),(4,.ptr 1 0),(5,.ptr 2 0),(6,.int .i64 i)]),(λi=>⟨true,0,0,.cells [.int .i64 op,.int .i64 num,.str nm,.rs kids.length 4 (exC kids)] 69⟩::⟨true,1,0,.cells [.int .i64 0,.int .i64 0,.str [],.nslice] 69⟩::⟨true,2,0,.cells [.int .i64 op,.int .i64 num,.str (nm),grA 3 4 (namL (kids.take i))] 69⟩::grB 3 exC 69 (namL (kids.take i))),(λi=>kids.length-i),⟨0,Y09 _,?_⟩,?_⟩
   · simp only[Y0j,namL]
     refine Y02 [0,1,2] rfl ?_ ⟨hbp,hbp,hbp,trivial⟩ rfl
     exact wks
   intro i hi
   dsimp only
   by_cases hlt:i<kids.length
   · have e1:decide ((i:Int)<(kids.length:Int))=true:=by simpa using hlt
     have hx:=ex4 kids i hlt
     have hsz:=Z0h _ _ (Z03 hlt)
     have hkl:=Z1q kids
     have q3:=q1 kids[i] (by omega) (Z0k hk.2 _ (Z03 hlt)) (by omega)
     have hnx:=Z3g kids i hlt
     have hol:(namL (kids.take i)).length<=1048576:=by rw[Z12,Y0f];omega
     clear q1 q2' hsz
     generalize namL (kids.take i)=o at *
     generalize Z1b kids[i]=y at *
     generalize kids[i]=x at *
     obtain⟨xo,xn,xs,xk⟩:=x
     obtain⟨yo,yn,ys,yk⟩:=y
     simp only[Ex.cells]at hx q3
     cases o with
     |nil =>
      repeat' ((conv=>whnf);first|with_reducible refine exI (q3 _) ?_|(with_reducible refine ixJ i rfl ?_ ?_;focus omega)|refine exI hx ?_|(refine apS ?_)|refine stp ?_|with_reducible apply Z01<;>intro h)
      conv=>whnf
      refine⟨i+1,hlt,by show kids.length-(i+1)<kids.length-i;omega,?_⟩
      rw[hnx]
      refine Y02 [0,1,2,4] rfl ?_ ⟨hbp,hbp,⟨rfl,rfl,rfl,rfl,Y0r ⟨Y05 rfl,Y05 rfl,Y07 rfl,Y06 rfl rfl rfl (Y00 _) (Y00 _) rfl,trivial⟩⟩,hbp,trivial⟩ rfl
      exact wks
     |cons z o =>
      have hcl:=Z22 z o
      have hon:=Z6a (z::o)
      simp only[Y0a]at hol
      repeat' ((conv=>whnf);first|with_reducible refine exI (q3 _) ?_|(with_reducible refine ixJ i rfl ?_ ?_;focus omega)|refine exI hx ?_|(refine apS ?_)|refine stp ?_|with_reducible apply Z01<;>intro h)
      conv=>whnf
      refine⟨i+1,hlt,by show kids.length-(i+1)<kids.length-i;omega,?_⟩
      rw[hnx]
      refine Y02 [0,1,2,5] rfl ?_ ⟨hbp,hbp,⟨rfl,rfl,rfl,rfl,Y0r ⟨Y05 rfl,Y05 rfl,Y07 rfl,Y06 rfl rfl (by simp) (Y00 _) (by simp) rfl,trivial⟩⟩,⟨rfl,rfl,rfl,rfl,Y03 (rest:=[]) (by show _=exC ((z::o)++[Ex.mk yo yn ys yk])++[];rw[Z4T,Y08];simp only[exC,Ex.cells,Y08]) (Z5G _)⟩,trivial⟩ rfl
      exact wks
   · have e1:decide ((i:Int)<(kids.length:Int))=false:=by simpa using hlt
     have hi2:i=kids.length:=by have:=hi;omega
     subst hi2
     have hol:(namL kids).length=kids.length:=Z12 kids
     rw[Y0d]
     rw[<- hol]
     clear q1 q2'
     generalize namL kids=o at *
     cases o with
     |nil =>
      rw[<- hol]at *
      repeat' ((conv=>whnf);first|refine stp ?_|with_reducible apply Z01<;>intro h)
      all_goals (conv=>whnf)
      all_goals exact .inr wk4
     |cons z o =>
      repeat' ((conv=>whnf);first|refine stp ?_|with_reducible apply Z01<;>intro h)
      all_goals (conv=>whnf)
      all_goals exact⟨_,Z5y (n:=29) rfl rfl rfl (Z1h (n:=27) (b:=3) rfl (Z22 z o) (Z2m _)),.inl rfl⟩
end Go.Proofs.YthbimonbnaodkaaGreatDoor.lex
end
namespace Go.Proofs.YthbimonbnaodkaaGreatDoor.lex
open Go.Abs Go.RowKit
section
variable {gl:Z0o}
def ZkP(k:Int)(n l:List UInt8)(o:Int)(x:List Ex):St:=.mk k n l o x [] []
def alA(k:Int)(n l:List UInt8)(o:Int)(nx:Nat)(cx:List AV):AV:=.rs 1 7 [.int .i64 k,.str n,.str l,.int .i64 o,.rs nx 4 cx,.nslice,.nslice]
theorem Zn5(k:Int)(n l:List UInt8)(o:Int)(x:List Ex):∀sn vs,LR sn noI [alA k n l o x.length (exC x)] vs->LR sn noI [stA [ZkP k n l o x]] vs:=by
 intro sn vs h
 have hE:stA [ZkP k n l o x] = .rs 1 7 [.int .i64 k,.str n,.str l,.int .i64 o,.rs x.length 4 (exC x),.rs 0 7 [],.rs 0 7 []]:=rfl
 rw[hE]
 simp only[alA,LR]at h⊢
 obtain⟨d,ds,rfl,h1,h2⟩:=h
 refine⟨d,ds,rfl,?_,h2⟩
 unfold VR at h1⊢
 rcases h1 with ⟨h1,_⟩|⟨a,cap,x1,x2,x3,x4,x5⟩
 ·cases h1
 · refine .inr ⟨a,cap,x1,x2,rfl,?_,x5⟩
   simp only[MR]at x4⊢
   obtain⟨m1,m2,m3,m4,m5,⟨v6,n6,k6⟩,⟨v7,n7,k7⟩,m8⟩:=x4
   exact⟨m1,m2,m3,m4,m5,⟨v6,n6,Zhq k6⟩,⟨v7,n7,Zhq k7⟩,m8⟩
section
open Classical
noncomputable def ZnF(g:Nat)(A:List AV)(r:AV):Nat->List AV->Option AV:=λf fa=>if f=g/\fa=A then some r else none
end
theorem Zfu{g:Nat}{A:List AV}{r:AV}(h:ValOK Y01 gl g A r):OrcSound Y01 gl (Zm9 (ZnF g A r)):=ZfJ λf args r' hr=>by
 unfold ZnF at hr
 split at hr
 · rename_i h2
   obtain⟨rfl,rfl⟩:=h2
   simp only[Option.some.injEq]at hr
   subst hr
   exact h
 ·cases hr
theorem Zn6{k:Int}{n l:List UInt8}{o:Int}{x:List Ex}(hn:n.length<=9223372036854775807)(hl:l.length<=9223372036854775807)(hx:okL x)(hxl:x.length<=9223372036854775807):okSL [ZkP k n l o x]:=by
 simp[okSL,ZkP,okS,okL,okN,hn,hl,hx,hxl]
theorem ZiH(k:Int)(n l:List UInt8)(o:Int)(x:List Ex):sizeSL [ZkP k n l o x]=1+sizeL x:=by simp[ZkP,sizeSL,Zcx]
end
end Go.Proofs.YthbimonbnaodkaaGreatDoor.lex
section
namespace Go.Proofs.YthbimonbnaodkaaGreatDoor.lex
open Go.Abs Go.RowKit Go.Flat
variable {gl:Z0o}
theorem Zel(e:Ex)(hok:okE e)(hs:Z0a e<=800000):ValOK Y01 gl 99 [.agg e.cells] (rsK (Z3r (nmE e))):=by
 have hregs:=(ZjC (gl:=gl) [ZkP 0 [] [] 0 [e]] (Zn6 (by decide) (by decide) (by simp only[okL];exact⟨hok,trivial⟩) (by simp)) (by simp) (by rw[ZiH];simp only[sizeL];omega)).weak (Zn5 0 [] [] 0 [e])
 have hnm:nmSL [ZkP 0 [] [] 0 [e]]=nmE e:=by simp[nmSL,ZkP,nmS,nmL]
 rw[hnm]at hregs
 have hO1:=Zfu hregs
 have q1:∀H args,Z0T (frz H 30) args=some [alA 0 [] [] 0 [e].length (exC [e])]->Z02 Y01 (Zm9 (ZnF 144 [alA 0 [] [] 0 [e].length (exC [e])] (rsK (Z3r (nmE e))))) H 144 args=some (rsK (Z3r (nmE e)),kil (λ_ _=>true) 0 H):=λH args h=>Zpt (by kernel_rfl) h (by unfold ZnF;exact if_pos ⟨rfl,rfl⟩)
 generalize Zm9 (ZnF 144 [alA 0 [] [] 0 [e].length (exC [e])] (rsK (Z3r (nmE e))))=OO at *
 generalize Z3r (nmE e)=nm at *
 clear hregs hnm
 obtain⟨op,num,name,kids⟩:=e
 simp only[Ex.cells,alA,rsK,exC,Y08,Y0a,Y0h]at *
 refine Z05 follows Z07 hO1 Tryz.func99 rfl ?_
 repeat' ((conv=>whnf);first|refine exI (q1 _ _ rfl) ?_|refine stp ?_|with_reducible apply Z01<;>intro h)
 all_goals rfl
theorem Zjw(regs:Int)(l:List (List UInt8)):Z8j regs (Z3r l)=Z8j regs l:=by
 unfold Z8j
 rw[Y0w,List.all_eq_true,List.all_eq_true]
 constructor
 ·intro h x hx;exact h x (Z5g.2 (.inr hx))
 · intro h x hx
   rcases Z5g.1 hx with h2|h2
   ·cases h2
   ·exact h x h2
theorem ZaZ(l:List (List UInt8)):(Z3r l).length<=l.length:=by
 have:=Z9E l []
 unfold Z3r
 simpa using this
theorem ZgS{l:List (List UInt8)}(h:∀x∈l,x.length<=9223372036854775807):∀x∈Z3r l,x.length<=9223372036854775807:=λx hx=>by
 rcases Z5g.1 hx with h2|h2
 ·cases h2
 ·exact h x h2
theorem Z3h (k : Int) (h : 1 <= k /\ k <= 13) :
  (Z3o k=false/\Z0R k=true/\Z5p k=false/\toB k=false/\(k==7)=false/\(k==10)=false/\(k==11)=false) \/
  (Z3o k=true/\Z0R k=true/\Z5p k=true/\toB k=false/\(k==7)=false/\(k==10)=false/\(k==11)=false) \/
  (Z3o k=true/\Z0R k=false/\Z5p k=true/\toB k=false/\(k==7)=false/\(k==10)=false/\(k==11)=false) \/
  (Z3o k=false/\Z0R k=false/\Z5p k=true/\toB k=false/\(k==7)=true/\(k==10)=false/\(k==11)=false) \/
  (Z3o k=false/\Z0R k=false/\Z5p k=false/\toB k=false/\(k==7)=false/\(k==10)=false/\(k==11)=false) \/
  (Z3o k=false/\Z0R k=false/\Z5p k=false/\toB k=true/\(k==7)=false/\(k==10)=true/\(k==11)=false) \/
  (Z3o k=false/\Z0R k=false/\Z5p k=false/\toB k=true/\(k==7)=false/\(k==10)=false/\(k==11)=true):=by
 have:k=1\/k=2\/k=3\/k=4\/k=5\/k=6\/k=7\/k=8\/k=9\/k=10\/k=11\/k=12\/k=13:=by omega
 rcases this with rfl|rfl|rfl|rfl|rfl|rfl|rfl|rfl|rfl|rfl|rfl|rfl|rfl<;>decide
def exR(regs:Int)(e:Ex):Bool:=(Z0K (Z1b e)==0)&&Z8j regs (nmE e)
theorem ZmS(regs:Int){e:Ex}(h:Z4X e=false):exR regs e=Z0m regs e:=by
 unfold exR;rw[ZbQ h,Z5Y]
theorem Z4K(regs:Int):∀l:List Ex,rightPL regs l=l.all (Z0m regs)
 |[]=>rfl
 |e::l=>by simp only[rightPL,List.all_cons,Z4K regs l]
theorem ZcM(regs:Int)(n:Nat)(cs:List AV)(i:Ins)(hok:okL i.ex)(hl:i.ex.length<=9223372036854775807)(hn:n<=9223372036854775807)(hs:∀e∈i.ex,Z0a e<=800000)(hb:∀e∈i.ex,Z4X e=false):ValOK Y01 gl 49 [.agg [.int .i64 regs,.rs n 6 cs],.agg (icells i)] (.bool (Z0y regs n i)):=by
 obtain⟨kind,reg,loc,order,to,ex⟩:=i
 simp only at hok hl hs hb
 have hinjE:∀{r:Ex->AV}(x y:Ex),x∈ex->y∈ex->[AV.agg x.cells]=[AV.agg y.cells]->r x=r y:=λx y _ _ h=>by rw[Z3I h]
 have hinjN:∀x y:Ex,x∈ex->y∈ex->[AV.agg x.cells,.str [114]]=[AV.agg y.cells,.str [114]]->AV.agg (Z1b x).cells = .agg (Z1b y).cells:=λx y _ _ h=>by
  simp only[List.cons.injEq,AV.agg.injEq,and_true]at h
  rw[Z0M _ _ h]
 have hinjC:∀x y:Ex,x∈ex->y∈ex->[AV.agg (Z1b x).cells]=[AV.agg (Z1b y).cells]->AV.int .i64 (Z0K (Z1b x)) = .int .i64 (Z0K (Z1b y)):=λx y _ _ h=>by
  rw[Z3I h]
 obtain⟨O,hO,p1,p2,p3,p4,p5,p6,p7,-⟩:=fams (P:=Y01) (gl:=gl) [{ I:=Int,f:=89,G:=λ_=>True,A:=λk=>[.int .i64 k],R:=λk=>.bool (Z3o k),body:=(by kernel_rfl),inj:=(λi j _ _ h=>by simp only[List.cons.injEq,AV.int.injEq,and_true,true_and]at h;rw[h]),ok:=λ_ _=>⟨rfl,ZiI _⟩ },
  { I:=Int,f:=88,G:=λ_=>True,A:=λk=>[.int .i64 k],R:=λk=>.bool (Z0R k),body:=(by kernel_rfl),inj:=(λi j _ _ h=>by simp only[List.cons.injEq,AV.int.injEq,and_true,true_and]at h;rw[h]),ok:=λ_ _=>⟨rfl,ZcD _⟩ },
  { I:=Int,f:=113,G:=λ_=>True,A:=λk=>[.int .i64 k],R:=λk=>.int .i64 (Zla k),body:=(by kernel_rfl),inj:=(λi j _ _ h=>by simp only[List.cons.injEq,AV.int.injEq,and_true,true_and]at h;rw[h]),ok:=λ_ _=>⟨rfl,ZnS _⟩ },
  { I:=Ex,f:=64,G:=λx=>x∈ex,A:=λx=>[.agg x.cells,.str [114]],R:=λx=>.agg (Z1b x).cells,body:=(by kernel_rfl),inj:=hinjN,ok:=(λx hx=>⟨by obtain⟨o,m,s,k⟩:=x;simp only[Ex.cells];rfl,Z9Q _ x (Y00 _) (Z0k hok _ hx) (by have:=hs x hx;omega)⟩) },
  { I:=Ex,f:=48,G:=λx=>x∈ex,A:=λx=>[.agg (Z1b x).cells],R:=λx=>.int .i64 (Z0K (Z1b x)),body:=(by kernel_rfl),inj:=hinjC,ok:=(λx hx=>⟨Z1l _,Z9h _ (Z9S _ (Z0k hok _ hx)) (by rw[Z49];have:=hs x hx;omega)⟩) },
  { I:=Ex,f:=99,G:=λx=>x∈ex,A:=λx=>[.agg x.cells],R:=λx=>rsK (Z3r (nmE x)),body:=(by kernel_rfl),inj:=hinjE,ok:=(λx hx=>⟨Z1l _,Zel _ (Z0k hok _ hx) (hs x hx)⟩) },
  { I:=List UInt8,f:=100,G:=λs=>s.length<=9223372036854775807,A:=λs=>[.str s],R:=λs=>.int .i64 (Z1c s),body:=(by kernel_rfl),inj:=(λi j _ _ h=>by simp only[List.cons.injEq,AV.str.injEq,and_true]at h;rw[h]),ok:=λs hs=>⟨rfl,Zho s hs⟩ }] rfl
 have q1:∀k H,Z02 Y01 O H 89 [.int .i64 k]=some (.bool (Z3o k),H):=λk=>p1 k trivial
 have q2:∀k H,Z02 Y01 O H 88 [.int .i64 k]=some (.bool (Z0R k),H):=λk=>p2 k trivial
 have q3:∀k H,Z02 Y01 O H 113 [.int .i64 k]=some (.int .i64 (Zla k),H):=λk=>p3 k trivial
 have q4:∀x∈ex,∀H,Z02 Y01 O H 64 [.agg x.cells,.str [114]]=some (.agg (Z1b x).cells,H):=p4
 have q5:∀x∈ex,∀H,Z02 Y01 O H 48 [.agg (Z1b x).cells]=some (.int .i64 (Z0K (Z1b x)),H):=p5
 have q6:∀x∈ex,∀H,Z02 Y01 O H 99 [.agg x.cells]=some (rsK (Z3r (nmE x)),H):=p6
 have q7:∀s,s.length<=9223372036854775807->∀H,Z02 Y01 O H 100 [.str s]=some (.int .i64 (Z1c s),H):=p7
 clear p1 p2 p3 p4 p5 p6 p7 hinjN hinjC
 simp only[icells,exA]
 refine Z05 follows Z07 hO Tryz.func49 rfl ?_
 have q1k:=q1 kind
 have q2k:=q2 kind
 have q3k:=q3 kind
 clear q1 q2 q3
 by_cases hk:1<=kind/\kind<=13
 · have hr : Z0y regs n ⟨kind, reg, loc, order, to, ex⟩ = (((ex.length : Int) == ZiZ kind) && ((inW order 1 7 (Z5p kind) && (inW reg 0 regs (Z0R kind) && (inW loc 0 6 (Z3o kind) && inW to 0 n (toB kind)))) && rightPL regs ex)) := by
    unfold Z0y
    rw[show decide (1<=kind/\kind<=13)=true by simpa using hk]
    generalize inW order 1 7 (Z5p kind)=a
    generalize inW reg 0 regs (Z0R kind)=b
    generalize inW loc 0 6 (Z3o kind)=c
    generalize inW to 0 n (toB kind)=d
    generalize ((ex.length:Int)==ZiZ kind)=e
    generalize rightPL regs ex=f
    cases a<;>cases b<;>cases c<;>cases d<;>cases e<;>cases f<;>rfl
   rw[hr]
   have hnx:Zla kind=ZiZ kind:=by unfold Zla;rw[if_pos hk]
   rw[hnx]at q3k
   clear hr hnx
   generalize ZiZ kind=nx at *
   cases hc:((ex.length:Int)==nx) with
   |false =>
    have e0:(nx != (ex.length:Int))=true:=by simp only[beq_eq_false_iff_ne]at hc;simp only[bne_iff_ne];omega
    rcases Z3h kind hk with h|h|h|h|h|h|h
    all_goals (
     obtain⟨h1,h2,h3,h4,h5,h6,h7⟩:=h
     rw[h1]at q1k;rw[h2]at q2k
     repeat' ((conv=>whnf);first|refine exI (q1k _) ?_|refine exI (q2k _) ?_|refine exI (q3k _) ?_|refine stp ?_|with_reducible apply Z01<;>intro h))
    all_goals rfl
   |true =>
    have e0:(nx != (ex.length:Int))=false:=by simp only[beq_iff_eq]at hc;simp only[bne_eq_false_iff_eq];omega
    rw[Y0n]
    by_cases hw:(inW order 1 7 (Z5p kind)&&(inW reg 0 regs (Z0R kind)&&(inW loc 0 6 (Z3o kind)&&inW to 0 n (toB kind))))=true
    · rw[hw,Y0n,Z4K]
      rcases Z3h kind hk with h|h|h|h|h|h|h
      all_goals (
       obtain⟨h1,h2,h3,h4,h5,h6,h7⟩:=h
       rw[h1]at q1k;rw[h2]at q2k
       rw[h1,h2,h3,h4]at hw
       simp only[inW,Bool.and_eq_true,decide_eq_true_eq,beq_iff_eq,if_true,Bool.false_eq_true,if_false]at hw
       obtain⟨w1,w2,w3,w4⟩:=hw
       try have f8:(!((kind==7)==decide (order<=6)))=false:=by rw[h5];simp;omega
       have g5:=h5
       have g6:=h6
       have g7:=h7
       simp only[beq_iff_eq,beq_eq_false_iff_ne,ne_eq]at g5 g6 g7
       repeat' ((conv=>whnf);first|refine exI (q1k _) ?_|refine exI (q2k _) ?_|refine exI (q3k _) ?_|refine stp ?_|with_reducible apply Z01<;>intro h)
       (try clear f8);clear q1k q2k q3k h1 h2 h3 h4 h5 h6 h7 w1 w2 w3 w4 g5 g6 g7
       conv=>whnf
       refine⟨Nat,(λi=>i<=ex.length/\(ex.take i).all (Z0m regs)=true),(λi=>[(2,.ptr 0 0),(3,.ptr 1 0),(7,.int .i64 i)]),(λ_=>[⟨true,0,0,.cells [.int .i64 regs,.rs n 6 cs] 24⟩,⟨true,1,0,.cells [.int .i64 kind,.int .i64 reg,.int .i64 loc,.int .i64 order,.int .i64 to,.rs ex.length 4 (exC ex)] 37⟩]),(λi=>ex.length-i),⟨0,⟨Y09 _,rfl⟩,?_⟩,?_⟩
       · refine Y02 [0,1] rfl ?_ ⟨hbp,hbp,trivial⟩ rfl
         exact wks
       rintro i ⟨hi,hall⟩
       dsimp only
       by_cases hlt:i<ex.length
       · have e1:decide ((i:Int)<(ex.length:Int))=true:=by simpa using hlt
         have hx:=ex4 ex i hlt
         have hm:=Z03 hlt
         have y4:=q4 _ hm
         have y5:=q5 _ hm
         have y6:=q6 _ hm
         have hat:=Znt (p:=Z0m regs) ex i hlt
         rw[hall,Y0n]at hat
         have hst:=Z6h (p:=Z0m regs) hlt
         rw[<- ZmS regs (hb _ hm)]at hat hst
         have hsv:∀s∈Z3r (nmE ex[i]),s.length<=9223372036854775807:=ZgS (Zhp (Z0k hok _ hm))
         have hll:(Z3r (nmE ex[i])).length<=800000:=by
          have:=ZaZ (nmE ex[i])
          have:=Z48 ex[i]
          have:=hs _ hm
          omega
         simp only[exR]at hat hst
         rw[<- Zjw regs (nmE ex[i])]at hat hst
         simp only[rsK]at y6
         clear q4 q5 q6
         generalize Z3r (nmE ex[i])=l at *
         generalize Z0K (Z1b ex[i])=ce at *
         generalize Z1b ex[i]=ne at *
         generalize ex[i]=x at *
         obtain⟨xo,xn,xs,xk⟩:=x
         obtain⟨no,nn,ns,nk⟩:=ne
         simp only[Ex.cells]at hx y4 y5 y6
         cases hce:(ce==0) with
         |false =>
          have e2:(ce != 0)=true:=by simp[bne,hce]
          rw[hst (by rw[hce];rfl)]
          repeat' ((conv=>whnf);first|refine exI hx ?_|refine exI (y4 _) ?_|refine exI (y5 _) ?_|(with_reducible refine ixJ i rfl ?_ ?_;focus omega)|refine stp ?_|with_reducible apply Z01<;>intro h)
          all_goals rfl
         |true =>
          have e2:(ce != 0)=false:=by simp[bne,hce]
          rw[hce,Y0n]at hat hst
          repeat' ((conv=>whnf);first|refine exI hx ?_|refine exI (y4 _) ?_|refine exI (y5 _) ?_|refine exI (y6 _) ?_|(with_reducible refine ixJ i rfl ?_ ?_;focus omega)|refine stp ?_|with_reducible apply Z01<;>intro h)
          conv=>whnf
          refine⟨Nat,(λm=>m<=l.length/\Z8j regs (l.take m)=true),(λm=>[(2,.ptr 0 0),(3,.ptr 1 0),(7,.int .i64 i),(8,.rs l.length 1 (l.map .str)),(9,.int .i64 m)]),(λ_=>[⟨true,0,0,.cells [.int .i64 regs,.rs n 6 cs] 24⟩,⟨true,1,0,.cells [.int .i64 kind,.int .i64 reg,.int .i64 loc,.int .i64 order,.int .i64 to,.rs ex.length 4 (exC ex)] 37⟩]),(λm=>l.length-m),⟨0,⟨Y09 _,rfl⟩,?_⟩,?_⟩
          · refine Y02 [0,1] rfl ?_ ⟨hbp,hbp,trivial⟩ rfl
            exact wks
          rintro m ⟨hmi,hall2⟩
          dsimp only
          by_cases hmt:m<l.length
          · have e3:decide ((m:Int)<(l.length:Int))=true:=by simpa using hmt
            have hxm:tk 1 ((l.map AV.str).drop (m*1))=some [.str l[m]]:=Z1Q _ l m hmt (by omega)
            have q7m:=q7 l[m] (hsv _ (Z03 hmt))
            have ham:=Znt (p:=λs=>decide (Z1c s<regs)) l m hmt
            rw[show (l.take m).all (λs=>decide (Z1c s<regs))=true from hall2,Y0n]at ham
            have hst2:=Z6h (p:=λs=>decide (Z1c s<regs)) hmt
            clear q7 hsv
            generalize l[m]=s at *
            generalize Z1c s=nn2 at *
            by_cases hlr:nn2<regs
            · have e4:decide (nn2 >= regs)=false:=by simp;omega
              repeat' ((conv=>whnf);first|refine exI hxm ?_|refine exI (q7m _) ?_|(with_reducible refine ixJ m rfl ?_ ?_;focus omega)|refine stp ?_|with_reducible apply Z01<;>intro h)
              conv=>whnf
              refine⟨m+1,⟨hmt,by show (l.take (m+1)).all _=true;rw[ham];simpa using hlr⟩,by show l.length-(m+1)<l.length-m;omega,?_⟩
              refine Y02 [0,1] rfl ?_ ⟨hbp,hbp,trivial⟩ rfl
              exact wks
            · have e4:decide (nn2 >= regs)=true:=by simp;omega
              rw[hst (hst2 (by simpa using hlr))]
              repeat' ((conv=>whnf);first|refine exI hxm ?_|refine exI (q7m _) ?_|(with_reducible refine ixJ m rfl ?_ ?_;focus omega)|refine stp ?_|with_reducible apply Z01<;>intro h)
              all_goals rfl
          · have e3:decide ((m:Int)<(l.length:Int))=false:=by simpa using hmt
            have hm2:m=l.length:=by omega
            subst hm2
            rw[Y0d]at hall2
            rw[hall2]at hat
            repeat' ((conv=>whnf);first|refine stp ?_|with_reducible apply Z01<;>intro h)
            conv=>whnf
            refine⟨i+1,⟨hlt,hat⟩,by show ex.length-(i+1)<ex.length-i;omega,?_⟩
            refine Y02 [0,1] rfl ?_ ⟨hbp,hbp,trivial⟩ rfl
            exact wks
       · have e1:decide ((i:Int)<(ex.length:Int))=false:=by simpa using hlt
         have hi2:i=ex.length:=by omega
         subst hi2
         rw[Y0d]at hall
         rw[hall]
         repeat' ((conv=>whnf);first|refine stp ?_|with_reducible apply Z01<;>intro h)
         all_goals rfl)
    · rw[Bool.eq_false_iff.2 hw,Bool.false_and]
      rcases Z3h kind hk with h|h|h|h|h|h|h
      all_goals (
       obtain⟨h1,h2,h3,h4,h5,h6,h7⟩:=h
       rw[h1]at q1k;rw[h2]at q2k
       rw[h1,h2,h3,h4]at hw
       simp only[inW,Bool.and_eq_true,decide_eq_true_eq,beq_iff_eq,if_true,Bool.false_eq_true,if_false]at hw
       have g5:=h5
       have g6:=h6
       have g7:=h7
       simp only[beq_iff_eq,beq_eq_false_iff_ne,ne_eq]at g5 g6 g7
       repeat' ((conv=>whnf);first|refine exI (q1k _) ?_|refine exI (q2k _) ?_|refine exI (q3k _) ?_|refine stp ?_|with_reducible apply Z01<;>intro h))
      all_goals (first|rfl|(exfalso;clear q1k q2k q3k q4 q5 q6 q7 hO hok hl hs hb;simp_all;done)|(exfalso;clear q1k q2k q3k q4 q5 q6 q7 hO hok hl hs hb;simp_all;omega))
 · have hr : Z0y regs n ⟨kind, reg, loc, order, to, ex⟩ = false := by
    unfold Z0y
    rw[show decide (1<=kind/\kind<=13)=false by simpa using hk];rfl
   rw[hr]
   have hnx:Zla kind = -1:=by unfold Zla;rw[if_neg hk]
   rw[hnx]at q3k
   have e0:((-1:Int) != (ex.length:Int))=true:=by simp only[bne_iff_ne];omega
   have e7:(kind==7)=false:=by simp only[beq_eq_false_iff_ne];omega
   have e10:(kind==10)=false:=by simp only[beq_eq_false_iff_ne];omega
   have e11:(kind==11)=false:=by simp only[beq_eq_false_iff_ne];omega
   have ha:Z3o kind=false:=by simp only[Z3o,decide_eq_false_iff_not];omega
   rw[ha]at q1k
   repeat' ((conv=>whnf);first|refine exI (q1k _) ?_|refine exI (q2k _) ?_|refine exI (q3k _) ?_|refine stp ?_|with_reducible apply Z01<;>intro h)
   all_goals rfl
end Go.Proofs.YthbimonbnaodkaaGreatDoor.lex
end
section
namespace Go.Proofs.YthbimonbnaodkaaGreatDoor.lex
open Go.Abs Go.RowKit Go.Flat
variable {gl:Z0o}
theorem ZfZ(e:Ex):(Z0K e==3)=Z4X e:=by
 unfold Z0K Z4X
 by_cases h:2000<Z0a e\/32<Z2A e
 ·simp[h]
 · rw[if_neg h]
   cases Z0j e<;>simp[h]
theorem Z1d(c:Cd)(hok:okC c)(hs:∀i∈c.ins,∀e∈i.ex,Z0a e<=800000):ValOK Y01 gl 10 [c.av] (.int .i64 (Z2o c)):=by
 obtain⟨regs,ins⟩:=c
 obtain⟨hl,hx⟩:=hok
 simp only at hl hx hs
 have hinj1:∀x y:Ex,(okE x/\Z0a x<=800000)->(okE y/\Z0a y<=800000)->[AV.agg x.cells]=[AV.agg y.cells]->AV.int .i64 (Z0K x) = .int .i64 (Z0K y):=λx y _ _ h=>by rw[Z3I h]
 have hinj2 : ∀ p q : Ins, (p ∈ ins /\ ∀ e ∈ p.ex, Z4X e = false) -> (q ∈ ins /\ ∀ e ∈ q.ex, Z4X e = false) -> [AV.agg [.int .i64 regs, .rs ins.length 6 (inC ins)], AV.agg (icells p)] = [AV.agg [.int .i64 regs, .rs ins.length 6 (inC ins)], AV.agg (icells q)] ->
   AV.bool (Z0y regs ins.length p) = .bool (Z0y regs ins.length q):=λp q _ _ ha=>by
  simp only[List.cons.injEq,AV.agg.injEq,and_true,true_and]at ha
  rw[Z1g ha]
 obtain⟨O,hO,p1,p2,-⟩:=fams (P:=Y01) (gl:=gl) [{ I:=Ex,f:=48,G:=λx=>okE x/\Z0a x<=800000,A:=λx=>[.agg x.cells],R:=λx=>.int .i64 (Z0K x),body:=(by kernel_rfl),inj:=hinj1,ok:=(λx hx=>⟨Z1l _,Z9h _ hx.1 (by have:=hx.2;omega)⟩) },
  { I:=Ins,f:=49,G:=λp=>p∈ins/\∀e∈p.ex,Z4X e=false,A:=λp=>[.agg [.int .i64 regs,.rs ins.length 6 (inC ins)],.agg (icells p)],R:=λp=>.bool (Z0y regs ins.length p),body:=(by kernel_rfl),inj:=hinj2,ok:=(λp hp=>⟨rfl,ZcM regs ins.length (inC ins) p (hx p hp.1).2 (hx p hp.1).1 hl (hs p hp.1) hp.2⟩) }] rfl
 have q1:∀(ex:List Ex) m (h:m<ex.length),okL ex->(∀e∈ex,Z0a e<=800000)->∀H,Z02 Y01 O H 48 [.agg ex[m].cells]=some (.int .i64 (Z0K ex[m]),H):=λex m h ho hz=>p1 ex[m] ⟨Z0k ho _ (Z03 h),hz _ (Z03 h)⟩
 have q2:∀i (h:i<ins.length),Zgg ⟨regs,ins⟩=false->∀H,Z02 Y01 O H 49 [.agg [.int .i64 regs,.rs ins.length 6 (inC ins)],.agg (icells ins[i])]=some (.bool (Z0y regs ins.length ins[i]),H):=λi h hb=>p2 ins[i] ⟨Z03 h,λe he=>by
  rw[Bool.eq_false_iff];intro h2
  have:Zgg ⟨regs,ins⟩=true:=Z8e (p:=λi:Ins=>i.ex.any Z4X) h (List.any_eq_true.2 ⟨e,he,h2⟩)
  rw[hb]at this;cases this⟩
 clear p1 p2 hinj1 hinj2
 unfold Z2o
 simp only[Cd.av]at *
 by_cases h1:16<regs\/4000<ins.length
 · rw[if_pos (.inl h1)]
   refine Z05 follows Z07 hO Tryz.func10 rfl ?_
   by_cases h2:16<regs
   · have e1:decide (regs>16)=true:=by simpa using h2
     repeat' ((conv=>whnf);first|refine stp ?_|with_reducible apply Z01<;>intro h)
     all_goals rfl
   · have e1:decide (regs>16)=false:=by simpa using h2
     have e2:decide ((ins.length:Int)>4000)=true:=by simp;omega
     repeat' ((conv=>whnf);first|refine stp ?_|with_reducible apply Z01<;>intro h)
     all_goals rfl
 have e1:decide (regs>16)=false:=by simp;omega
 have e2:decide ((ins.length:Int)>4000)=false:=by simp;omega
 refine Z05 follows Z07 hO Tryz.func10 rfl ?_
 repeat' ((conv=>whnf);first|refine stp ?_|with_reducible apply Z01<;>intro h)
 conv=>whnf
 refine⟨Nat,(λi=>i<=ins.length/\(ins.take i).any (λi=>i.ex.any Z4X)=false),(λi=>[(1,.ptr 0 0),(3,.int .i64 i)]),(λi=>[⟨true,0,0,.cells [.int .i64 regs,.rs ins.length 6 (inC ins)] 24⟩]),(λi=>ins.length-i),⟨0,⟨Y09 _,rfl⟩,?_⟩,?_⟩
 · refine Y02 [0] rfl ?_ ⟨hbp,trivial⟩ rfl
   exact wks
 rintro i ⟨hi,hall⟩
 dsimp only
 by_cases hlt:i<ins.length
 · have e3:decide ((i:Int)<(ins.length:Int))=true:=by simpa using hlt
   have hx5:=ZmC ins i hlt
   have hat:=ZoJ (p:=λi:Ins=>i.ex.any Z4X) ins i hlt
   rw[hall,Bool.false_or]at hat
   have hbg:ins[i].ex.any Z4X=true->Zgg ⟨regs,ins⟩=true:=λh=>Z8e (p:=λi:Ins=>i.ex.any Z4X) hlt h
   have hxi:=hx _ (Z03 hlt)
   have hsi:=hs _ (Z03 hlt)
   have q1':=q1 ins[i].ex
   clear q1 q2 hs hx
   generalize ins[i]=y at *
   obtain⟨k,r,lo,od,to,ex⟩:=y
   simp only[exA]at *
   repeat' ((conv=>whnf);first|refine exI hx5 ?_|(with_reducible refine ixJ i rfl ?_ ?_;focus omega)|refine stp ?_|with_reducible apply Z01<;>intro h)
   conv=>whnf
   refine⟨Nat,(λm=>m<=ex.length/\(ex.take m).any Z4X=false),(λm=>[(1,.ptr 0 0),(3,.int .i64 i),(4,.int .i64 m)]),(λm=>[⟨true,0,0,.cells [.int .i64 regs,.rs ins.length 6 (inC ins)] 24⟩]),(λm=>ex.length-m),⟨0,⟨Y09 _,rfl⟩,?_⟩,?_⟩
   · refine Y02 [0] rfl ?_ ⟨hbp,trivial⟩ rfl
     exact wks
   rintro m ⟨hm,hall2⟩
   dsimp only
   by_cases hmt:m<ex.length
   · have e4:decide ((m:Int)<(ex.length:Int))=true:=by simpa using hmt
     have q3:=q1' m hmt hxi.2 hsi
     have hx4:=ex4 ex m hmt
     have ham:=ZoJ (p:=Z4X) ex m hmt
     rw[hall2,Bool.false_or]at ham
     have hb2:=Z8e (p:=Z4X) (l:=ex) hmt
     have hcb:=ZfZ ex[m]
     clear q1'
     generalize Z0K ex[m]=ce at *
     generalize Z4X ex[m]=b at *
     generalize ex[m]=x at *
     obtain⟨xo,xn,xs,xk⟩:=x
     simp only[Ex.cells]at hx4 q3
     cases b with
     |false =>
      repeat' ((conv=>whnf);first|refine exI (q3 _) ?_|refine exI hx5 ?_|refine exI hx4 ?_|(with_reducible refine ixJ i rfl ?_ ?_;focus omega)|(with_reducible refine ixJ m rfl ?_ ?_;focus omega)|refine stp ?_|with_reducible apply Z01<;>intro h)
      conv=>whnf
      refine⟨m+1,⟨hmt,ham⟩,by show ex.length-(m+1)<ex.length-m;omega,?_⟩
      refine Y02 [0] rfl ?_ ⟨hbp,trivial⟩ rfl
      exact wks
     |true =>
      rw[if_pos (.inr (hbg (hb2 rfl)))]
      repeat' ((conv=>whnf);first|refine exI (q3 _) ?_|refine exI hx5 ?_|refine exI hx4 ?_|(with_reducible refine ixJ i rfl ?_ ?_;focus omega)|(with_reducible refine ixJ m rfl ?_ ?_;focus omega)|refine stp ?_|with_reducible apply Z01<;>intro h)
      all_goals rfl
   · have e4:decide ((m:Int)<(ex.length:Int))=false:=by simpa using hmt
     have hm2:m=ex.length:=by omega
     subst hm2
     rw[Y0d]at hall2
     rw[hall2]at hat
     repeat' ((conv=>whnf);first|refine exI hx5 ?_|(with_reducible refine ixJ i rfl ?_ ?_;focus omega)|refine stp ?_|with_reducible apply Z01<;>intro h)
     conv=>whnf
     refine⟨i+1,⟨hlt,hat⟩,by show ins.length-(i+1)<ins.length-i;omega,?_⟩
     refine Y02 [0] rfl ?_ ⟨hbp,trivial⟩ rfl
     exact wks
 · have e3:decide ((i:Int)<(ins.length:Int))=false:=by simpa using hlt
   have hi2:i=ins.length:=by omega
   subst hi2
   rw[Y0d]at hall
   have q2:=λi h=>q2 i h hall
   clear q1
   have hbig:¬((16<regs\/4000<ins.length)\/Zgg ⟨regs,ins⟩=true):=by
    rintro (h|h)
    ·exact h1 h
    ·rw[show Zgg ⟨regs,ins⟩=false from hall]at h;cases h
   rw[if_neg hbig]
   by_cases h2:regs<0\/ins.length=0
   · rw[if_pos h2]
     by_cases h3:regs<0
     · have e4:decide (regs<0)=true:=by simpa using h3
       repeat' ((conv=>whnf);first|refine stp ?_|with_reducible apply Z01<;>intro h)
       all_goals rfl
     · have e4:decide (regs<0)=false:=by simpa using h3
       have e5:((ins.length:Int)==0)=true:=by simp;rcases h2 with h2|h2;exact absurd h2 h3;simpa using h2
       repeat' ((conv=>whnf);first|refine stp ?_|with_reducible apply Z01<;>intro h)
       all_goals rfl
   rw[if_neg h2]
   have e4:decide (regs<0)=false:=by simp;omega
   have h0:ins.length≠0:=λe=>h2 (.inr e)
   have e5:((ins.length:Int)==0)=false:=by simp;intro e;exact h0 (by rw[e];rfl)
   repeat' ((conv=>whnf);first|refine stp ?_|with_reducible apply Z01<;>intro h)
   conv=>whnf
   refine⟨Nat,(λi=>i<=ins.length/\(ins.take i).all (Z0y regs ins.length)=true),(λi=>[(1,.ptr 0 0),(5,.int .i64 i)]),(λi=>[⟨true,0,0,.cells [.int .i64 regs,.rs ins.length 6 (inC ins)] 24⟩]),(λi=>ins.length-i),⟨0,⟨Y09 _,rfl⟩,?_⟩,?_⟩
   · refine Y02 [0] rfl ?_ ⟨hbp,trivial⟩ rfl
     exact wks
   rintro i ⟨hi,hall3⟩
   dsimp only
   by_cases hlt:i<ins.length
   · have e6:decide ((i:Int)<(ins.length:Int))=true:=by simpa using hlt
     have q3:=q2 i hlt
     have hx6:=in6 ins i hlt
     have hat:=Znt (p:=Z0y regs ins.length) ins i hlt
     rw[hall3,Y0n]at hat
     have hst:=Z6h (p:=Z0y regs ins.length) hlt
     clear q2
     generalize Z0y regs ins.length ins[i]=b at *
     generalize ins[i]=y at *
     obtain⟨k,r,lo,od,to,ex⟩:=y
     simp only[icells,exA]at hx6 q3
     cases b with
     |true =>
      repeat' ((conv=>whnf);first|refine exI (q3 _) ?_|refine exI hx6 ?_|(with_reducible refine ixJ i rfl ?_ ?_;focus omega)|refine stp ?_|with_reducible apply Z01<;>intro h)
      conv=>whnf
      refine⟨i+1,⟨hlt,hat⟩,by show ins.length-(i+1)<ins.length-i;omega,?_⟩
      refine Y02 [0] rfl ?_ ⟨hbp,trivial⟩ rfl
      exact wks
     |false =>
      rw[if_pos (hst rfl)]
      repeat' ((conv=>whnf);first|refine exI (q3 _) ?_|refine exI hx6 ?_|(with_reducible refine ixJ i rfl ?_ ?_;focus omega)|refine stp ?_|with_reducible apply Z01<;>intro h)
      all_goals rfl
   · have e6:decide ((i:Int)<(ins.length:Int))=false:=by simpa using hlt
     have hi2:i=ins.length:=by omega
     subst hi2
     rw[Y0d]at hall3
     rw[if_neg (by rw[hall3];decide)]
     have hlast:ins.length-1<ins.length:=by omega
     have hk:=Zo4 ins (ins.length-1) hlast
     have hlb:ZfS ⟨regs,ins⟩=(ins[ins.length-1].kind==10 || (ins[ins.length-1].kind==12 || ins[ins.length-1].kind==13)):=by
      simp only[ZfS,List.getElem?_eq_getElem hlast]
     rw[hlb]
     have w1:IntKind.i64.wrap ((ins.length:Int)-1)=((ins.length-1:Nat):Int):=by rw[Z2r (by omega) (by omega)];omega
     clear q2
     generalize ins[ins.length-1].kind=k at *
     have n1:(k != 10) = !(k==10):=rfl
     have n2:(k != 12) = !(k==12):=rfl
     have n3:(k != 13) = !(k==13):=rfl
     cases c1:(k==10)<;>cases c2:(k==12)<;>cases c3:(k==13)
     all_goals (rw[c1]at n1;rw[c2]at n2;rw[c3]at n3;simp only[Bool.not_true,Bool.not_false]at n1 n2 n3)
     all_goals (repeat' ((conv=>whnf);first|refine exI hk ?_|(with_reducible refine exW w1 ?_)|(with_reducible refine ixJ (ins.length-1) rfl ?_ ?_;focus omega)|refine stp ?_|with_reducible apply Z01<;>intro h))
     all_goals rfl
end Go.Proofs.YthbimonbnaodkaaGreatDoor.lex
end
section
namespace Go.Proofs.YthbimonbnaodkaaGreatDoor.lex
open Go.Abs Go.RowKit Go.Flat
variable {gl:Z0o}
theorem Z9P(regs:Int)(l:List Ins)(a:Nat)(ha:a<l.length)(hl:l.length<=4000)(h0:Zox (Z6O l a)):ValOK Y01 gl 55 [.agg [.int .i64 regs,.rs l.length 6 (inC l)],.int .i64 a] (Z1a (Z0v l a)):=by
 have hx:=in6 l a ha
 unfold Z0v
 rw[Z15 ha]at h0⊢
 have ha2:a<l.length:=ha
 generalize l[a]=i at *
 obtain⟨k,r,lo,od,to,ex⟩:=i
 simp only[Zox]at h0
 simp only[nx8,icells,exA,Z1a]at *
 by_cases h12:k=12\/k=13
 · rw[if_pos h12]
   simp only[nis,Y0s,Y0h]
   refine Z4Q follows Z07 Z06 Y0y rfl ?_
   rcases h12 with rfl|rfl
   · repeat' ((conv=>whnf);first|refine exI hx ?_|(with_reducible refine ixJ a rfl ?_ ?_;focus omega)|refine stp ?_|with_reducible apply Z01<;>intro h)
     all_goals exact .inr ⟨rfl,1,rfl⟩
   · repeat' ((conv=>whnf);first|refine exI hx ?_|(with_reducible refine ixJ a rfl ?_ ?_;focus omega)|refine stp ?_|with_reducible apply Z01<;>intro h)
     all_goals exact .inr ⟨rfl,1,rfl⟩
 rw[if_neg h12]
 have e12:(k==12)=false:=by simp;omega
 have e13:(k==13)=false:=by simp;omega
 have w:IntKind.i64.wrap ((a:Int)+1)=((a+1:Nat):Int):=ZdH (by omega)
 by_cases h10:k=10
 · subst h10
   obtain⟨t,rfl⟩:∃t:Nat,to=t:=⟨to.toNat,by omega⟩
   simp only[Y0t,if_true,nis,Y0u,Y0s,Y0a,Y0h]
   refine Z05 follows Z07 Z06 Y0y rfl ?_
   repeat' ((conv=>whnf);first|refine exI hx ?_|(with_reducible refine ixJ a rfl ?_ ?_;focus omega)|refine stp ?_|with_reducible apply Z01<;>intro h)
   all_goals rfl
 rw[if_neg h10]
 have e10:(k==10)=false:=by simpa using h10
 by_cases h11:k=11
 · subst h11
   obtain⟨t,rfl⟩:∃t:Nat,to=t:=⟨to.toNat,by omega⟩
   rw[if_pos rfl]
   simp only[Y0t]
   refine Z05 follows Z07 Z06 Y0y rfl ?_
   by_cases c1:t<a+1
   · rw[if_pos c1]
     have d1:decide ((t:Int)<((a+1:Nat):Int))=true:=by simp;omega
     simp only[nis,Y0u,Y0s,Y0a,Y0h]
     repeat' ((conv=>whnf);first|refine exI hx ?_|(with_reducible refine exW w ?_)|(with_reducible refine ixJ a rfl ?_ ?_;focus omega)|refine stp ?_|with_reducible apply Z01<;>intro h)
     all_goals rfl
   · rw[if_neg c1]
     have d1:decide ((t:Int)<((a+1:Nat):Int))=false:=by simp;omega
     by_cases c2:a+1<t
     · rw[if_pos c2]
       have d2:decide ((t:Int)>((a+1:Nat):Int))=true:=by simp;omega
       simp only[nis,Y0u,Y0s,Y0a,Y0h]
       repeat' ((conv=>whnf);first|refine exI hx ?_|(with_reducible refine exW w ?_)|(with_reducible refine ixJ a rfl ?_ ?_;focus omega)|refine stp ?_|with_reducible apply Z01<;>intro h)
       all_goals rfl
     · rw[if_neg c2]
       have d2:decide ((t:Int)>((a+1:Nat):Int))=false:=by simp;omega
       simp only[nis,Y0u,Y0s,Y0a,Y0h]
       repeat' ((conv=>whnf);first|refine exI hx ?_|(with_reducible refine exW w ?_)|(with_reducible refine ixJ a rfl ?_ ?_;focus omega)|refine stp ?_|with_reducible apply Z01<;>intro h)
       all_goals rfl
 · rw[if_neg h11]
   have e11:(k==11)=false:=by simpa using h11
   simp only[nis,Y0u,Y0s,Y0a,Y0h]
   refine Z05 follows Z07 Z06 Y0y rfl ?_
   repeat' ((conv=>whnf);first|refine exI hx ?_|(with_reducible refine exW w ?_)|(with_reducible refine ixJ a rfl ?_ ?_;focus omega)|refine stp ?_|with_reducible apply Z01<;>intro h)
   all_goals rfl
end Go.Proofs.YthbimonbnaodkaaGreatDoor.lex
end
section
namespace Go.Proofs.YthbimonbnaodkaaGreatDoor.lex
open Go.Abs Go.RowKit Go.Flat
variable {gl:Z0o}
theorem ZhM(l:List Int)(h:l.length<=1048576):ValOK Y01 gl 23 [.rs l.length 1 (ksC l),.rs l.length 1 (ksC l)] (.bool true):=by
 refine Z05 follows Z07 Z06 Tryz.func23 rfl ?_
 have e0:((l.length:Int) != (l.length:Int))=false:=Z0n (b:=true) (by simp)
 repeat' ((conv=>whnf);first|refine stp ?_|with_reducible apply Z01<;>intro h)
 conv=>whnf
 refine⟨Nat,(λi=>i<=l.length),(λi=>[(0,.rs l.length 1 (ksC l)),(1,.rs l.length 1 (ksC l)),(5,.int .i64 i)]),(λ_=>[]),(λi=>l.length-i),⟨0,Y09 _,FgL.mk0 rfl ?_⟩,?_⟩
 ·exact wks
 intro i hi
 dsimp only
 by_cases hlt:i<l.length
 · have e1:decide ((i:Int)<(l.length:Int))=true:=by simpa using hlt
   have hx:=Z1Q (AV.int .i64) l i hlt (off:=i*1) (by omega)
   have e2:(l[i] != l[i])=false:=Z0n (b:=true) (by simp)
   generalize l[i]=x at *
   unfold ksC
   repeat' ((conv=>whnf);first|(with_reducible refine ixJ i rfl ?_ ?_;focus omega)|refine exI hx ?_|refine stp ?_|with_reducible apply Z01<;>intro h)
   conv=>whnf
   refine⟨i+1,hlt,by show l.length-(i+1)<l.length-i;omega,FgL.mk0 rfl ?_⟩
   exact wks
 · have e1:decide ((i:Int)<(l.length:Int))=false:=by simpa using hlt
   repeat' ((conv=>whnf);first|refine stp ?_|with_reducible apply Z01<;>intro h)
   all_goals rfl
theorem Z92(f:Nat->Bool)(n:Nat)(h:n<=1048576):ValOK Y01 gl 34 [.rs n 1 (arr (λv=>.bool (f v)) n),.rs n 1 (arr (λv=>.bool (f v)) n)] (.bool true):=by
 have hat:=λi (hi:i<n)=>Z6I (λv=>AV.bool (f v)) hi (off:=i*1) (by omega)
 generalize arr (λv=>AV.bool (f v)) n=L at *
 refine Z05 follows Z07 Z06 Tryz.func34 rfl ?_
 have e0:((n:Int) != (n:Int))=false:=Z0n (b:=true) (by simp)
 repeat' ((conv=>whnf);first|refine stp ?_|with_reducible apply Z01<;>intro h)
 conv=>whnf
 refine⟨Nat,(λi=>i<=n),(λi=>[(0,.rs n 1 L),(1,.rs n 1 L),(5,.int .i64 i)]),(λ_=>[]),(λi=>n-i),⟨0,Y09 _,FgL.mk0 rfl ?_⟩,?_⟩
 ·exact wks
 intro i hi
 dsimp only
 by_cases hlt:i<n
 · have e1:decide ((i:Int)<(n:Int))=true:=by simpa using hlt
   have hx:=hat i hlt
   generalize f i=b at *
   cases b
   all_goals repeat' ((conv=>whnf);first|(with_reducible refine ixJ i rfl ?_ ?_;focus omega)|refine exI hx ?_|refine stp ?_|with_reducible apply Z01<;>intro h)
   all_goals (conv=>whnf)
   all_goals refine⟨i+1,hlt,by show n-(i+1)<n-i;omega,FgL.mk0 rfl ?_⟩
   ·exact wks
   ·exact wks
 · have e1:decide ((i:Int)<(n:Int))=false:=by simpa using hlt
   repeat' ((conv=>whnf);first|refine stp ?_|with_reducible apply Z01<;>intro h)
   all_goals rfl
theorem Zmi(l:List Nat):nis l=ksC (l.map λn:Nat=>(n:Int)):=by simp[nis,ksC]
theorem Z7L(l:List Nat)(h:l.length<=1048576):ValOK Y01 gl 23 [Z1a l,Z1a l] (.bool true):=by
 have:=ZhM (gl:=gl) (l.map λn:Nat=>(n:Int)) (by simpa using h)
 simpa only[Z1a,Zmi,List.length_map]using this
theorem Zbn(g:Nat->List Nat)(n:Nat)(h:n<=1048576)(hg:∀v,v<n->(g v).length<=1048576):ValOK Y01 gl 40 [.rs n 1 (arr (λv=>Z1a (g v)) n),.rs n 1 (arr (λv=>Z1a (g v)) n)] (.bool true):=by
 obtain⟨O,hO,p1,-⟩:=fams (P:=Y01) (gl:=gl) [{ I:=List Nat,f:=23,G:=λl=>l.length<=1048576,A:=λl=>[Z1a l,Z1a l],R:=λ_=>.bool true,body:=(by kernel_rfl),inj:=(λ_ _ _ _ _=>rfl),ok:=(λl hl=>⟨rfl,Z7L l hl⟩) }] rfl
 have q1:∀l:List Nat,l.length<=1048576->∀H,Z02 Y01 O H 23 [Z1a l,Z1a l]=some (.bool true,H):=p1
 have hat:=λi (hi:i<n)=>Z6I (λv=>Z1a (g v)) hi (off:=i*1) (by omega)
 generalize arr (λv=>Z1a (g v)) n=L at *
 clear p1
 refine Z05 follows Z07 hO Tryz.func40 rfl ?_
 have e0:((n:Int) != (n:Int))=false:=Z0n (b:=true) (by simp)
 repeat' ((conv=>whnf);first|refine stp ?_|with_reducible apply Z01<;>intro h)
 conv=>whnf
 refine⟨Nat,(λi=>i<=n),(λi=>[(0,.rs n 1 L),(1,.rs n 1 L),(5,.int .i64 i)]),(λ_=>[]),(λi=>n-i),⟨0,Y09 _,FgL.mk0 rfl ?_⟩,?_⟩
 ·exact wks
 intro i hi
 dsimp only
 by_cases hlt:i<n
 · have e1:decide ((i:Int)<(n:Int))=true:=by simpa using hlt
   have hx:=hat i hlt
   have q2:=q1 (g i) (hg i hlt)
   generalize g i=b at *
   simp only[Z1a]at hx q2
   repeat' ((conv=>whnf);first|refine exI (q2 _) ?_|(refine Z1N (q2 _) ?_)|(with_reducible refine ixJ i rfl ?_ ?_;focus omega)|refine exI hx ?_|refine stp ?_|with_reducible apply Z01<;>intro h)
   conv=>whnf
   refine⟨i+1,hlt,by show n-(i+1)<n-i;omega,FgL.mk0 rfl ?_⟩
   exact wks
 · have e1:decide ((i:Int)<(n:Int))=false:=by simpa using hlt
   repeat' ((conv=>whnf);first|refine stp ?_|with_reducible apply Z01<;>intro h)
   all_goals rfl
def Z11(x y:Ins):Bool:=x.kind==y.kind&&(x.reg==y.reg&&(x.loc==y.loc&&(x.order==y.order&&(x.to==y.to&&sameL x.ex y.ex))))
def ZcI(a b:Cd):Bool:=a.regs==b.regs&&Z3S Z11 a.ins b.ins
theorem Zfx(a b:Ins)(ha:a.ex.length<=9223372036854775807)(hok:okL a.ex):ValOK Y01 gl 103 [.agg (icells a),.agg (icells b)] (.bool (Z11 a b)):=by
 obtain⟨O,hO,p1,-⟩:=fams (P:=Y01) (gl:=gl) [{ I:=Unit,f:=145,G:=λ_=>True,A:=λ_=>[exA a.ex,exA b.ex,.func (.func 146) [] []],R:=λ_=>.bool (sameL a.ex b.ex),body:=(by kernel_rfl),inj:=(λ_ _ _ _ _=>rfl),ok:=(λ_ _=>⟨rfl,Zih a.ex b.ex ha λx hx y hy=>Zeb _ x y (Y00 _) (Z0k hok _ hx)⟩) }] rfl
 have q1:∀H,Z02 Y01 O H 145 [exA a.ex,exA b.ex,.func (.func 146) [] []]=some (.bool (sameL a.ex b.ex),H):=p1 () trivial
 clear p1
 obtain⟨k,r,lo,od,to,ex⟩:=a
 obtain⟨k',r',lo',od',to',ex'⟩:=b
 simp only[icells,Z11]at *
 generalize sameL ex ex'=w at *
 refine Z05 follows Z07 hO Tryz.func103 rfl ?_
 cases h1:(k==k')
 case' true=>cases h2:(r==r')
 case' true.true=>cases h3:(lo==lo')
 case' true.true.true=>cases h4:(od==od')
 case' true.true.true.true=>cases h5:(to==to')
 all_goals simp only[Bool.false_and,Y0n]
 all_goals repeat' ((conv=>whnf);first|(refine Z1N (q1 _) ?_)|refine exI (q1 _) ?_|refine stp ?_|with_reducible apply Z01<;>intro h)
 all_goals rfl
theorem ZcE(i:Ins):(if Z0R i.kind=true then i.reg else -1)=Z2g i:=by
 unfold Z2g Z0R
 by_cases h:i.kind=1\/i.kind=2\/i.kind=4\/i.kind=5\/i.kind=6
 · rw[if_pos h,if_pos]
   simp only[Bool.or_eq_true,beq_iff_eq]
   exact h
 · rw[if_neg h,if_neg]
   simp only[Bool.or_eq_true,beq_iff_eq]
   exact h
theorem Ze8(i:Ins):ValOK Y01 gl 39 [.agg (icells i)] (.int .i64 (Z2g i)):=by
 obtain⟨O,hO,p1,-⟩:=fams (P:=Y01) (gl:=gl) [{ I:=Unit,f:=88,G:=λ_=>True,A:=λ_=>[.int .i64 i.kind],R:=λ_=>.bool (Z0R i.kind),body:=(by kernel_rfl),inj:=(λ_ _ _ _ _=>rfl),ok:=(λ_ _=>⟨rfl,ZcD i.kind⟩) }] rfl
 have q1:∀H,Z02 Y01 O H 88 [.int .i64 i.kind]=some (.bool (Z0R i.kind),H):=p1 () trivial
 clear p1
 rw[<- ZcE]
 obtain⟨k,r,lo,od,to,ex⟩:=i
 simp only[icells]at *
 refine Z05 follows Z07 hO Tryz.func39 rfl ?_
 cases hb:Z0R k
 all_goals rw[hb]at q1
 all_goals repeat' ((conv=>whnf);first|(refine Z1N (q1 _) ?_)|refine exI (q1 _) ?_|refine stp ?_|with_reducible apply Z01<;>intro h)
 all_goals rfl
end Go.Proofs.YthbimonbnaodkaaGreatDoor.lex
end
section
namespace Go.Proofs.YthbimonbnaodkaaGreatDoor.lex
open Go.Abs Go.RowKit Go.Flat
def Z0Q(n:Nat):List Nat->Nat
 |[]=>0
 |x::l=>if x<n then Z0Q n l+1 else 0
def Zbu(n:Nat):List Nat->List Nat
 |[]=>[n]
 |x::l=>if x<n then x::Zbu n l else if x=n then x::l else n::x::l
theorem Zhe(n:Nat):∀l,Z0Q n l<=l.length
 |[]=>Y00 _
 |x::l=>by have:=Zhe n l;simp only[Z0Q,Y0a];split<;>omega
theorem Zhd(n:Nat):∀(l:List Nat)(k:Nat)(h:k<l.length),k<Z0Q n l->l[k]<n
 |x::l,0,h,hk=>by
  simp only[Z0Q]at hk
  split at hk
  ·assumption
  ·omega
 |x::l,k+1,h,hk=>by
  simp only[Z0Q]at hk
  split at hk
  ·exact Zhd n l k (by simpa using h) (by omega)
  ·omega
theorem Zhf(n:Nat):∀(l:List Nat)(h:Z0Q n l<l.length),n<=l[Z0Q n l]
 |x::l,h=>by
  by_cases hx:x<n
  · have e:Z0Q n (x::l)=Z0Q n l+1:=by simp[Z0Q,hx]
    have:=Zhf n l (by rw[e]at h;simpa using h)
    simpa only[e,Y0x]using this
  · have e:Z0Q n (x::l)=0:=by simp[Z0Q,hx]
    simp only[e,Y0E]
    omega
theorem ZhU(n:Nat):∀(l:List Nat)(h:Z0Q n l<l.length),l[Z0Q n l]=n->Zbu n l=l
 |x::l,h,e0=>by
  by_cases hx:x<n
  · have e:Z0Q n (x::l)=Z0Q n l+1:=by simp[Z0Q,hx]
    have:=ZhU n l (by rw[e]at h;simpa using h) (by simpa only[e,Y0x]using e0)
    simp only[Zbu,if_pos hx,this]
  · have e:Z0Q n (x::l)=0:=by simp[Z0Q,hx]
    simp only[e,Y0E]at e0
    simp only[Zbu,if_neg hx,if_pos e0]
theorem Z9Y(n:Nat):∀(l:List Nat),(∀h:Z0Q n l<l.length,l[Z0Q n l]≠n)->Zbu n l=(l.take (Z0Q n l)++[n])++l.drop (Z0Q n l)
 |[],_=>rfl
 |x::l,h=>by
  by_cases hx:x<n
  · have e:Z0Q n (x::l)=Z0Q n l+1:=by simp[Z0Q,hx]
    have:=Z9Y n l (λhl=>by
     have:=h (by rw[e];simpa using hl)
     simpa only[e,Y0x]using this)
    simp only[Zbu,if_pos hx,this,e,Y0C,List.drop_succ_cons,List.cons_append]
  · have e:Z0Q n (x::l)=0:=by simp[Z0Q,hx]
    have h0:=h (by rw[e];simp)
    simp only[e,Y0E]at h0
    simp only[Zbu,if_neg hx,if_neg h0,e,Y0j,Y0m,Y0g,List.cons_append]
theorem Z78{n x:Nat}:∀{l:List Nat},x∈Zbu n l ↔ x=n\/x∈l
 |[]=>by simp[Zbu]
 |y::l=>by
  have:=Z78 (n:=n) (x:=x) (l:=l)
  simp only[Zbu]
  split
  ·simp only[Y0o,this];exact or_left_comm
  · split
    ·rename_i h;subst h;simp
    ·simp
theorem Z9X{n:Nat}:∀{l:List Nat},l.Pairwise (· < ·)->(Zbu n l).Pairwise (· < ·)
 |[],_=>by simp[Zbu]
 |y::l,h=>by
  obtain⟨h1,h2⟩:=Y0F.1 h
  simp only[Zbu]
  split
  · rename_i hy
    refine Y0F.2 ⟨λa ha=>?_,Z9X h2⟩
    rcases Z78.1 ha with rfl|ha
    ·exact hy
    ·exact h1 a ha
  · split
    ·exact h
    · refine Y0F.2 ⟨λa ha=>?_,h⟩
      rcases Y0o.1 ha with rfl|ha
      ·omega
      ·have:=h1 a ha;omega
def Z8V(out:List Nat)(s:List UInt8):List Nat:=if 0<=Z1c s then Zbu (Z1c s).toNat out else out
def Zjd(ex:List Ex):List Nat:=ex.foldl (λout e=>(Z3r (nmE e)).foldl Z8V out) []
theorem Z5k:∀(l:List (List UInt8))(out:List Nat),out.Pairwise (· < ·)->(l.foldl Z8V out).Pairwise (· < ·)
 |[],_,h=>h
 |s::l,out,h=>by
  rw[Y0v]
  refine Z5k l _ ?_
  unfold Z8V
  split
  ·exact Z9X h
  ·exact h
theorem Z5l{x:Nat}:∀(l:List (List UInt8))(out:List Nat),x∈l.foldl Z8V out ↔ x∈out\/∃s∈l,Z1c s=(x:Int)
 |[],out=>by simp
 |s::l,out=>by
  rw[Y0v,Z5l l]
  unfold Z8V
  split
  · rename_i h
    rw[Z78]
    constructor
    · rintro ((rfl|h1)|⟨t,ht,e⟩)
      ·exact .inr ⟨s,by simp,by omega⟩
      ·exact .inl h1
      ·exact .inr ⟨t,by simp[ht],e⟩
    · rintro (h1|⟨t,ht,e⟩)
      ·exact .inl (.inr h1)
      · rcases Y0o.1 ht with rfl|ht
        ·exact .inl (.inl (by omega))
        ·exact .inr ⟨t,ht,e⟩
  · rename_i h
    constructor
    · rintro (h1|⟨t,ht,e⟩)
      ·exact .inl h1
      ·exact .inr ⟨t,by simp[ht],e⟩
    · rintro (h1|⟨t,ht,e⟩)
      ·exact .inl h1
      · rcases Y0o.1 ht with rfl|ht
        ·omega
        ·exact .inr ⟨t,ht,e⟩
theorem Z7k{x:Nat}:∀(ex:List Ex)(out:List Nat),x∈ex.foldl (λout e=>(Z3r (nmE e)).foldl Z8V out) out ↔ x∈out\/∃e∈ex,∃s∈nmE e,Z1c s=(x:Int)
 |[],out=>by simp
 |e::ex,out=>by
  rw[Y0v,Z7k ex,Z5l]
  have hm:∀s,s∈Z3r (nmE e) ↔ s∈nmE e:=λs=>by unfold Z3r;rw[Z5g];simp
  constructor
  · rintro ((h|⟨s,hs,e1⟩)|⟨e2,he,h⟩)
    ·exact .inl h
    ·exact .inr ⟨e,by simp,s,(hm s).1 hs,e1⟩
    ·exact .inr ⟨e2,by simp[he],h⟩
  · rintro (h|⟨e2,he,s,hs,e1⟩)
    ·exact .inl (.inl h)
    · rcases Y0o.1 he with rfl|he
      ·exact .inl (.inr ⟨s,(hm s).2 hs,e1⟩)
      ·exact .inr ⟨e2,he,s,hs,e1⟩
theorem ZaK:∀(ex:List Ex)(out:List Nat),out.Pairwise (· < ·)->(ex.foldl (λout e=>(Z3r (nmE e)).foldl Z8V out) out).Pairwise (· < ·)
 |[],_,h=>h
 |e::ex,out,h=>by rw[Y0v];exact ZaK ex _ (Z5k _ _ h)
theorem ZjQ:Z1c [] = -1:=rfl
theorem ZjH{op:Int}{name:List UInt8}{x:Int}(hx:0<=x):x∈Zer op name ↔ ∃s∈cond (op==2 && !(name==[])) [name] [],Z1c s=x:=by
 unfold Zer
 by_cases h2:op=2
 · subst h2
   cases name with
   |nil=>simp[ZjQ]
   |cons c l =>
    by_cases h:0<=Z1c (c::l)
    ·simp[h,eq_comm]
    ·simp[h];omega
 · have:(op==2)=false:=by simpa using h2
   simp[this]
mutual
theorem Zcq{x:Int}(hx:0<=x):∀e:Ex,x∈Zfq e ↔ ∃s∈nmE e,Z1c s=x
 | .mk op num name kids=>by
  simp only[Zfq,nmE,Y0z,ursL_nm hx kids,ZjH hx]
  constructor
  · rintro (⟨s,hs,e⟩|⟨s,hs,e⟩)
    ·exact⟨s,.inl hs,e⟩
    ·exact⟨s,.inr hs,e⟩
  · rintro⟨s,hs|hs,e⟩
    ·exact .inl ⟨s,hs,e⟩
    ·exact .inr ⟨s,hs,e⟩
theorem ursL_nm{x:Int}(hx:0<=x):∀l:List Ex,x∈ursL l ↔ ∃s∈nmL l,Z1c s=x
 |[]=>by simp[ursL,nmL]
 |e::l=>by
  simp only[ursL,nmL,Y0z,Zcq hx e,ursL_nm hx l]
  constructor
  · rintro (⟨s,hs,e⟩|⟨s,hs,e⟩)
    ·exact⟨s,.inl hs,e⟩
    ·exact⟨s,.inr hs,e⟩
  · rintro⟨s,hs|hs,e⟩
    ·exact .inl ⟨s,hs,e⟩
    ·exact .inr ⟨s,hs,e⟩
end
theorem Z9y{x:Int}:∀l:List Ex,x∈ursL l ↔ ∃e∈l,x∈Zfq e
 |[]=>by simp[ursL]
 |e::l=>by simp only[ursL,Y0z,Z9y l,Y0o,exists_eq_or_imp]
theorem ZdP(i:Ins):Zjd i.ex=Z1w i:=by
 have h1:(Zjd i.ex).Pairwise (· < ·):=ZaK _ _ List.Pairwise.nil
 have h2:Lib.compact ((ursL i.ex).mergeSort leI)=(Zjd i.ex).map λn:Nat=>(n:Int):=ZgE h1 λx=>by
  constructor
  · intro hx
    have h0:=ursL_nn _ x hx
    refine⟨x.toNat,?_,by omega⟩
    obtain⟨e,he,hxe⟩:=(Z9y _).1 hx
    obtain⟨s,hs,e1⟩:=(Zcq h0 e).1 hxe
    exact (Z7k i.ex []).2 (.inr ⟨e,he,s,hs,by omega⟩)
  · rintro⟨n,hn,rfl⟩
    rcases (Z7k i.ex []).1 hn with h|⟨e,he,s,hs,e1⟩
    ·cases h
    ·exact (Z9y _).2 ⟨e,he,(Zcq (by omega) e).2 ⟨s,hs,e1⟩⟩
 have h3:=Z9x i
 rw[h2]at h3
 have:∀{a b:List Nat},a.map (λn:Nat=>(n:Int))=b.map (λn:Nat=>(n:Int))->a=b:=λh=>by
  have:=congrArg (List.map Int.toNat) h
  simpa[List.map_map,Function.comp_def]using this
 exact this h3
def Z7l(ex:List Ex)(out:List Nat):List Nat:=ex.foldl (λout e=>(Z3r (nmE e)).foldl Z8V out) out
theorem ZlD(ex:List Ex):Zjd ex=Z7l ex []:=rfl
theorem Zfp{ex:List Ex}{k:Nat}(h:k<ex.length):Z7l (ex.take (k+1)) []=(Z3r (nmE ex[k])).foldl Z8V (Z7l (ex.take k) []):=by
 unfold Z7l
 rw[Y0H h,List.foldl_append]
 rfl
theorem Zh9{l:List (List UInt8)}{out:List Nat}{m:Nat}(h:m<l.length):(l.take (m+1)).foldl Z8V out=Z8V ((l.take m).foldl Z8V out) l[m]:=by
 rw[Y0H h,List.foldl_append]
 rfl
theorem ZkZ{l:List Nat}(h:l.Pairwise (· < ·)):∀i (hi:i<l.length),i<=l[i]
 |0,_=>Y09 _
 |i+1,hi=>by
  have h1:=ZkZ h i (by omega)
  have h2:=List.pairwise_iff_getElem.1 h i (i+1) (by omega) hi (by omega)
  omega
theorem ZlT{l:List Nat}{n:Nat}(h:l.Pairwise (· < ·))(hn:∀x∈l,x<n):l.length<=n:=by
 cases hl:l.length with
 |zero=>omega
 |succ m =>
  have h1:=ZkZ h m (by omega)
  have h2:=hn _ (Y0p (show m<l.length by omega))
  omega
def OutOK(out:List Nat):Prop:=out.Pairwise (· < ·)/\∀x∈out,x<10000
theorem OutOK.nil:OutOK []:=⟨List.Pairwise.nil,λx h=>by cases h⟩
theorem OutOK.few{out:List Nat}(h:OutOK out):out.length<=10000:=ZlT h.1 h.2
theorem OutOK.put{out:List Nat}(h:OutOK out)(s:List UInt8):OutOK (Z8V out s):=by
 unfold Z8V
 split
 · refine⟨Z9X h.1,λx hx=>?_⟩
   rcases Z78.1 hx with rfl|hx
   ·have:=Zmg s;omega
   ·exact h.2 x hx
 ·exact h
theorem OutOK.fold{out:List Nat}(h:OutOK out):∀l:List (List UInt8),OutOK (l.foldl Z8V out)
 |[]=>h
 |s::l=>by rw[Y0v];exact OutOK.fold (h.put s) l
theorem OutOK.uses{out:List Nat}(h:OutOK out):∀ex:List Ex,OutOK (Z7l ex out)
 |[]=>h
 |e::ex=>by unfold Z7l;rw[Y0v];exact OutOK.uses (h.fold _) ex
def ZiY(v:Int)(o:List Nat):Nat:=if 0<=v then Z0Q v.toNat o else 0
theorem Zm5(v:Int)(o:List Nat):ZiY v o<=o.length:=by
 unfold ZiY;split
 ·exact Zhe _ _
 ·exact Y09 _
theorem Zm4{v:Int}{o:List Nat}{k:Nat}(h:k<o.length)(hk:k<ZiY v o):((o[k]:Nat):Int)<v:=by
 unfold ZiY at hk
 split at hk
 ·have:=Zhd v.toNat o k h hk;omega
 ·omega
theorem ZjG{v:Int}{o:List Nat}(hv:0<=v):ZiY v o=Z0Q v.toNat o:=if_pos hv
theorem ZjF{o:List Nat}{s:List UInt8}(h:¬0<=Z1c s):Z8V o s=o:=if_neg h
theorem ZjE{o:List Nat}{s:List UInt8}(h:0<=Z1c s):Z8V o s=Zbu (Z1c s).toNat o:=if_pos h
end Go.Proofs.YthbimonbnaodkaaGreatDoor.lex
end
namespace Go.Proofs.YthbimonbnaodkaaGreatDoor.lex
open Go.Abs Go.RowKit
section
theorem Zgh{H:Z00}{b f c:Nat}{ty:TypeId}{o:List Nat}{k:Nat}(hH:H[b]? = some ⟨true,f,0,.cells (nis o) ty⟩)(hk:k<=o.length):Z0U H 1 (.slice b 0 k c 1)=some (k,nis (o.take k)):=by
 have h:tk (k*1) ((nis o).drop 0)=some (nis (o.take k)):=by
  have h1:nis o=nis (o.take k)++nis (o.drop k):=by rw[<- Z2w,List.take_append_drop]
  have h2:(nis (o.take k)).length=k*1:=by rw[Z0w,Y0f,Y0l hk];omega
  rw[Y0m,h1,<- h2];exact Z8I _ _
 simp only[Z0U,if_true,rd,hH,h]
theorem Zgi{H:Z00}{b f c n:Nat}{ty:TypeId}{o:List Nat}{k:Nat}(hH:H[b]? = some ⟨true,f,0,.cells (nis o) ty⟩)(hn:n=o.length):Z0U H 1 (.slice b (0+k*1) (n-k) c 1)=some (n-k,nis (o.drop k)):=by
 have h:tk ((n-k)*1) ((nis o).drop (0+k*1))=some (nis (o.drop k)):=by
  have h1:(nis o).drop (0+k*1)=nis (o.drop k):=by simp[nis]
  rw[h1]
  exact Z6s (by rw[Z0w,Y0D,hn];omega)
 simp only[Z0U,if_true,rd,hH,h]
theorem Zlw{H:Z00}{b off n c:Nat}{ty:TypeId}(h0:n=0){f:Nat}{cs:List AV}(hH:H[b]? = some ⟨true,f,0,.cells cs ty⟩):Z0U H 1 (.slice b off n c 1)=some (0,[]):=by
 subst h0
 have h:tk (0*1) (cs.drop off)=some []:=by cases (cs.drop off)<;>rfl
 simp only[Z0U,if_true,rd,hH,h]
end
end Go.Proofs.YthbimonbnaodkaaGreatDoor.lex
section
namespace Go.Abs
open Go.RowKit
noncomputable def Z8o(n:Nat)(k:Nat->Prop):Prop :=
 Nat.rec (motive:=λ_=>Prop) (k 0) (λm0 _=>Nat.rec (motive:=λ_=>Prop) (k 1) (λm1 _=>Nat.rec (motive:=λ_=>Prop) (k 2) (λm2 _=>Nat.rec (motive:=λ_=>Prop) (k 3) (λm3 _=>Nat.rec (motive:=λ_=>Prop) (k 4) (λm4 _=>Nat.rec (motive:=λ_=>Prop) (k 5) (λm5 _=>Nat.rec (motive:=λ_=>Prop) (k 6) (λm6 _=>Nat.rec (motive:=λ_=>Prop) (k 7) (λm7 _=>Nat.rec (motive:=λ_=>Prop) (k 8) (λm8 _=>Nat.rec (motive:=λ_=>Prop) (k 9) (λm9 _=>Nat.rec (motive:=λ_=>Prop) (k 10) (λm10 _=>Nat.rec (motive:=λ_=>Prop) (k 11) (λm11 _=>Nat.rec (motive:=λ_=>Prop) (k 12) (λm12 _=>Nat.rec (motive:=λ_=>Prop) (k 13) (λm13 _=>Nat.rec (motive:=λ_=>Prop) (k 14) (λm14 _=>Nat.rec (motive:=λ_=>Prop) (k 15) (λm15 _=>Nat.rec (motive:=λ_=>Prop) (k 16) (λm16 _=>Nat.rec (motive:=λ_=>Prop) (k 17) (λm17 _=>Nat.rec (motive:=λ_=>Prop) (k 18) (λm18 _=>Nat.rec (motive:=λ_=>Prop) (k 19) (λm19 _=>Nat.rec (motive:=λ_=>Prop) (k 20) (λm20 _=>Nat.rec (motive:=λ_=>Prop) (k 21) (λm21 _=>Nat.rec (motive:=λ_=>Prop) (k 22) (λm22 _=>Nat.rec (motive:=λ_=>Prop) (k 23) (λm23 _=>k (m23+24)) m22) m21) m20) m19) m18) m17) m16) m15) m14) m13) m12) m11) m10) m9) m8) m7) m6) m5) m4) m3) m2) m1) m0) n
theorem Z5A(n:Nat)(k:Nat->Prop):Z8o n k=k n:=match n with
 |0=>rfl
 |1=>rfl
 |2=>rfl
 |3=>rfl
 |4=>rfl
 |5=>rfl
 |6=>rfl
 |7=>rfl
 |8=>rfl
 |9=>rfl
 |10=>rfl
 |11=>rfl
 |12=>rfl
 |13=>rfl
 |14=>rfl
 |15=>rfl
 |16=>rfl
 |17=>rfl
 |18=>rfl
 |19=>rfl
 |20=>rfl
 |21=>rfl
 |22=>rfl
 |23=>rfl
 |n+24=>rfl
noncomputable def Z8p:Z00->(Z00->Prop)->Prop
 |[],k=>k []
 |⟨al,fam,sh,.cells cs t⟩::l,k=>Z8q al λal=>Z8o fam λfam=>Z8o sh λsh=>Z8p l λl=>k (⟨al,fam,sh,.cells cs t⟩::l)
 |⟨al,fam,sh,.map es c⟩::l,k=>Z8q al λal=>Z8o fam λfam=>Z8o sh λsh=>Z8p l λl=>k (⟨al,fam,sh,.map es c⟩::l)
 |⟨al,fam,sh,.siter a b⟩::l,k=>Z8q al λal=>Z8o fam λfam=>Z8o sh λsh=>Z8p l λl=>k (⟨al,fam,sh,.siter a b⟩::l)
 |⟨al,fam,sh,.loop g ts⟩::l,k=>Z8q al λal=>Z8o fam λfam=>Z8o sh λsh=>Z8p l λl=>k (⟨al,fam,sh,.loop g ts⟩::l)
theorem Z5B:∀(H:Z00)(k:Z00->Prop),Z8p H k=k H
 |[],k=>rfl
 |⟨al,fam,sh,.cells cs t⟩::l,k=>by simp only[Z8p,Z2M,Z5A,Z5B l]
 |⟨al,fam,sh,.map es c⟩::l,k=>by simp only[Z8p,Z2M,Z5A,Z5B l]
 |⟨al,fam,sh,.siter a b⟩::l,k=>by simp only[Z8p,Z2M,Z5A,Z5B l]
 |⟨al,fam,sh,.loop g ts⟩::l,k=>by simp only[Z8p,Z2M,Z5A,Z5B l]
theorem Zd2{n:Nat}{k:Nat->Prop}(h:Z8o n k):frcNP n k:=by rw[Z1t];rwa [Z5A]at h
theorem Zd3{H:Z00}{k:Z00->Prop}(h:Z8p H k):frcHW H k:=by rw[Z0i];rwa [Z5B]at h
end Go.Abs
end
section
namespace Go.Proofs.YthbimonbnaodkaaGreatDoor.lex
open Go.Abs Go.RowKit Go.Flat
variable {gl:Z0o}
def usB(yk yr yl yo yt:Int)(ex:List Ex):AObj:=⟨true,0,0,.cells [.int .i64 yk,.int .i64 yr,.int .i64 yl,.int .i64 yo,.int .i64 yt,exA ex] 37⟩
section
attribute [local irreducible] Go.Abs.frcHW Go.Abs.frcNP
theorem ZdN(i:Ins)(hl:i.ex.length<=9223372036854775807)(hok:okL i.ex)(hs:∀e∈i.ex,Z0a e<=800000):ValOK Y01 gl 37 [.agg (icells i)] (Z1a (Z1w i)):=by
 rw[<- ZdP]
 obtain⟨O,hO,p1,p2,-⟩:=fams (P:=Y01) (gl:=gl) [{ I:=Ex,f:=99,G:=λe=>e∈i.ex,A:=λe=>[.agg e.cells],R:=λe=>rsK (Z3r (nmE e)),body:=(by kernel_rfl),inj:=(λx y _ _ h=>by rw[Z3I h]),ok:=(λe he=>⟨Z1l e,Zel e (Z0k hok _ he) (hs e he)⟩) },
  { I:=List UInt8,f:=100,G:=λs=>s.length<=9223372036854775807,A:=λs=>[.str s],R:=λs=>.int .i64 (Z1c s),body:=(by kernel_rfl),inj:=(λi j _ _ h=>by simp only[List.cons.injEq,AV.str.injEq,and_true]at h;rw[h]),ok:=λs hs=>⟨rfl,Zho s hs⟩ }] rfl
 have q1:∀e∈i.ex,∀H,Z02 Y01 O H 99 [.agg e.cells]=some (rsK (Z3r (nmE e)),H):=p1
 have q2:∀s,s.length<=9223372036854775807->∀H,Z02 Y01 O H 100 [.str s]=some (.int .i64 (Z1c s),H):=p2
 clear p1 p2
 obtain⟨yk,yr,yl,yo,yt,ex⟩:=i
 simp only[icells,Z1a,ZlD]at *
 have hT:Z7e Y01 31 31=some (3,1,8):=by kernel_rfl
 refine Z4Q follows Z07 hO Tryz.func37 rfl ?_
 repeat' ((conv=>whnf);first|(with_reducible refine Z0x ?_)|(with_reducible refine Z0E ?_)|refine stp ?_|with_reducible apply Z01<;>intro h)
 conv=>whnf
 refine⟨Nat,(λk=>k<=ex.length),(λk=>[(1,.ptr 0 0),(3,grA 1 1 (Z7l (ex.take k) [])),(4,.int .i64 (k:Nat))]),(λk=>usB yk yr yl yo yt ex::grB 1 nis 3 (Z7l (ex.take k) [])),(λk=>ex.length-k),⟨0,Y09 _,?_⟩,?_⟩
 · refine Y02 [0] rfl ?_ ⟨hbp,trivial⟩ rfl
   exact wks
 intro k hk
 dsimp only at hk⊢
 have hO0:=OutOK.nil.uses (ex.take k)
 by_cases hkt:k<ex.length
 · have e1:decide ((k:Int)<(ex.length:Int))=true:=by simpa using hkt
   have hnx:=Zfp hkt
   have hx4:=ex4 ex k hkt
   have q1e:=q1 ex[k] (Y0p hkt)
   have hoe:=Z0k hok _ (Y0p hkt)
   have hse:=hs _ (Y0p hkt)
   generalize Z7l (ex.take k) []=o at *
   generalize ex[k]=e at *
   generalize hnm:Z3r (nmE e)=nm at *
   have hsn:∀x∈nm,x.length<=9223372036854775807:=by rw[<- hnm];exact ZgS (Zhp hoe)
   have hnml:nm.length<=9223372036854775807:=by
    rw[<- hnm];exact Nat.le_trans (ZaZ _) (Nat.le_trans (Z48 e) (by omega))
   obtain⟨xo,xn,xs,xk⟩:=e
   simp only[Ex.cells,rsK]at *
   unfold usB
   generalize hgA:grA 1 1 o=gA
   generalize hgB:grB 1 nis 3 o=gB
   show Z0F _ _
   rw[Z0d]
   generalize hK:((k:Nat):Int)=kv at *
   conv in (Z3s _ _)=>reduce
   subst hK
   repeat' ((conv=>whnf);first|(refine Z1N (q1e _) ?_)|refine exI (q1e _) ?_|refine exI hx4 ?_|(with_reducible refine ixJ k rfl ?_ ?_;focus omega)|(with_reducible refine Z0x ?_)|(with_reducible refine Z0E ?_)|refine stp ?_|with_reducible apply Z01<;>intro h)
   conv=>whnf
   subst hgA hgB
   refine⟨Nat,(λm=>m<=nm.length),(λm=>[(1,.ptr 0 0),(3,grA 1 1 ((nm.take m).foldl Z8V o)),(4,.int .i64 (k:Nat)),(5,.rs nm.length 1 (Z19 nm)),(6,.int .i64 (m:Nat))]),(λm=>usB yk yr yl yo yt ex::grB 1 nis 3 ((nm.take m).foldl Z8V o)),(λm=>nm.length-m),⟨0,Y09 _,?_⟩,?_⟩
   · dsimp only
     rw[Y0j,List.foldl_nil]
     rcases o with _|⟨z,o⟩
     · refine Y02 [0] rfl ?_ ⟨hbp,trivial⟩ rfl
       exact wks
     · refine Y02 [0,1] rfl ?_ ⟨hbp,⟨rfl,rfl,rfl,rfl,Y03 (rest:=[]) (by rw[Y08]) (Z0c _)⟩,trivial⟩ rfl
       refine Y04 (Y0b rfl rfl) (Y04 (Y06 rfl rfl rfl (Y00 _) (Y00 _) rfl) ?_)
       exact wks
   intro m hm
   dsimp only at hm⊢
   have hO1:=hO0.fold (nm.take m)
   by_cases hmt:m<nm.length
   · have e2:decide ((m:Int)<(nm.length:Int))=true:=by simpa using hmt
     have hps:=Zh9 (out:=o) hmt
     have hxs:tk 1 ((Z19 nm).drop (m*1))=some [.str nm[m]]:=Z1Q AV.str nm m hmt (by omega)
     have q2s:=q2 nm[m] (hsn _ (Y0p hmt))
     generalize (nm.take m).foldl Z8V o=o1 at *
     generalize nm[m]=s at *
     generalize hv:Z1c s=v at *
     have hpl:=Zm5 v o1
     have hfew:=hO1.few
     unfold usB
     generalize hgA:grA 1 1 o1=gA
     generalize hgB:grB 1 nis 3 o1=gB
     generalize hst:Z19 nm=sT at *
     show Z0F _ _
     rw[Z0d]
     generalize hK:((k:Nat):Int)=kv at *
     generalize hK2:((m:Nat):Int)=mv at *
     conv in (Z3s _ _)=>reduce
     subst hK hK2
     repeat' ((conv=>whnf);first|(refine Z1N (q2s _) ?_)|refine exI (q2s _) ?_|refine exI hxs ?_|(with_reducible refine ixJ m rfl ?_ ?_;focus omega)|(with_reducible refine Z0x ?_)|(with_reducible refine Z0E ?_)|refine stp ?_|with_reducible apply Z01<;>intro h)
     conv=>whnf
     subst hgA hgB
     refine⟨Nat,(λj=>j<=ZiY v o1),(λj=>[(1,.ptr 0 0),(3,grA 1 1 o1),(4,.int .i64 (k:Nat)),(5,.rs nm.length 1 sT),(6,.int .i64 (m:Nat)),(7,.int .i64 v),(8,.int .i64 (j:Nat))]),(λj=>usB yk yr yl yo yt ex::grB 1 nis 3 o1),(λj=>ZiY v o1-j),⟨0,Y09 _,?_⟩,?_⟩
     · rcases o1 with _|⟨z,o1⟩
       · refine Y02 [0] rfl ?_ ⟨hbp,trivial⟩ rfl
         exact wks
       · refine Y02 [0,1] rfl ?_ ⟨hbp,⟨rfl,rfl,rfl,rfl,Y03 (rest:=[]) (by rw[Y08]) (Z0c _)⟩,trivial⟩ rfl
         refine Y04 (Y0b rfl rfl) (Y04 (Y06 rfl rfl rfl (Y00 _) (Y00 _) rfl) ?_)
         exact wks
     intro j hj
     dsimp only at hj⊢
     by_cases hjt:j<ZiY v o1
     · have hjl:j<o1.length:=by omega
       have hlt:=Zm4 hjl hjt
       rcases o1 with _|⟨z,o1⟩
       ·simp at hjl
       have hg:tk 1 ((nis (z::o1)).drop (0+j*1))=some [.int .i64 ((z::o1)[j]:Nat)]:=Z3Q (z::o1) hjl (by omega)
       have hjl2:j<o1.length+1:=by simpa using hjl
       have e3:decide ((j:Int)<((o1.length+1:Nat):Int))=true:=by simp;omega
       have e4:decide ((((z::o1)[j]:Nat):Int)<v)=true:=by simpa using hlt
       generalize (z::o1)[j]=y at *
       generalize hpz:ZiY v (z::o1)=pz at *
       unfold usB
       show Z0F _ _
       rw[Z0d]
       generalize hK:((k:Nat):Int)=kv at *
       generalize hK2:((m:Nat):Int)=mv at *
       generalize hK3:((j:Nat):Int)=jv at *
       generalize hzz:nis (z::o1)=zz at *
       simp only[grA,grB,hzz]
       conv in (Z3s _ _)=>reduce
       subst hK hK2 hK3
       repeat' ((conv=>whnf);first|refine exI hg ?_|(with_reducible refine ixJ j rfl ?_ ?_;focus omega)|(with_reducible refine Z0x ?_)|(with_reducible refine Z0E ?_)|refine stp ?_|with_reducible apply Z01<;>intro h)
       conv=>whnf
       subst hzz
       refine⟨j+1,hjt,by show pz-(j+1)<pz-j;omega,?_⟩
       refine Y02 [0,1] rfl ?_ ⟨hbp,⟨rfl,rfl,rfl,rfl,Y03 (rest:=[]) (by rw[Y08]) (Z0c _)⟩,trivial⟩ rfl
       refine Y04 (Y0b rfl rfl) (Y04 (Y06 rfl rfl rfl (Y00 _) (Y00 _) rfl) ?_)
       exact wks
     · have hj2:j=ZiY v o1:=by omega
       by_cases hv0:0<=v
       · obtain⟨N,rfl⟩:∃N:Nat,v=N:=⟨v.toNat,by omega⟩
         have e5:decide (((N:Nat):Int) >= 0)=true:=by simp
         rw[ZjE (by rw[hv];exact hv0),hv,Y0t]at hps
         have hjp:j=Z0Q N o1:=by rw[hj2,ZjG hv0,Y0t]
         have hj0:j<=o1.length:=by rw[hj2];exact hpl
         clear hj2 hjt hj hpl
         rcases o1 with _|⟨z,o1⟩
         · have hj0:j=0:=hjp
           subst hj0
           unfold usB
           simp only[grA,grB]
           show Z0F _ _
           rw[Z0d]
           generalize hK:((k:Nat):Int)=kv at *
           generalize hK2:((m:Nat):Int)=mv at *
           generalize hK3:((N:Nat):Int)=nv at *
           conv in (Z3s _ _)=>reduce
           subst hK hK2 hK3
           repeat' ((conv=>whnf);first|(refine apS ?_)|(with_reducible refine Z0x ?_)|(with_reducible refine Z0E ?_)|refine stp ?_|with_reducible apply Z01<;>intro h)
           conv=>whnf
           refine⟨m+1,hmt,by show nm.length-(m+1)<nm.length-m;omega,?_⟩
           dsimp only
           rw[hps]
           refine Y02 [0,3] rfl ?_ ⟨hbp,hbp,trivial⟩ rfl
           refine Y04 (Y0b rfl rfl) (Y04 (Y06 rfl rfl rfl (Y00 _) (Y00 _) rfl) ?_)
           exact wks
         · by_cases hjl:j<(z::o1).length
           · have hjl2:j<o1.length+1:=by simpa using hjl
             have hge:=Zhf N (z::o1) (by rw[<- hjp];exact hjl)
             have hin:=ZhU N (z::o1) (by rw[<- hjp];exact hjl)
             simp only[<- hjp]at hge hin
             have hg:tk 1 ((nis (z::o1)).drop (0+j*1))=some [.int .i64 ((z::o1)[j]:Nat)]:=Z3Q (z::o1) hjl (by omega)
             have e3:decide ((j:Int)<((o1.length+1:Nat):Int))=true:=by simp;omega
             have e4:decide ((((z::o1)[j]:Nat):Int)<(N:Nat))=false:=by simp;omega
             have e6:((j:Int)==((o1.length+1:Nat):Int))=false:=by simp;omega
             by_cases hyN:(z::o1)[j]=N
             · have e7:((((z::o1)[j]:Nat):Int) != (N:Nat))=false:=by rw[hyN];simp
               rw[hin hyN]at hps
               generalize (z::o1)[j]=y at *
               clear hjp
               unfold usB
               show Z0F _ _
               rw[Z0d]
               generalize hK:((k:Nat):Int)=kv at *
               generalize hK2:((m:Nat):Int)=mv at *
               generalize hK3:((j:Nat):Int)=jv at *
               generalize hK4:((N:Nat):Int)=nv at *
               generalize hzz:nis (z::o1)=zz at *
               simp only[grA,grB,hzz]
               conv in (Z3s _ _)=>reduce
               subst hK hK2 hK3 hK4
               repeat' ((conv=>whnf);first|refine exI hg ?_|(with_reducible refine ixJ j rfl ?_ ?_;focus omega)|(with_reducible refine Z0x ?_)|(with_reducible refine Z0E ?_)|refine stp ?_|with_reducible apply Z01<;>intro h)
               conv=>whnf
               subst hzz
               refine⟨m+1,hmt,by show nm.length-(m+1)<nm.length-m;omega,?_⟩
               dsimp only
               rw[hps]
               refine Y02 [0,1] rfl ?_ ⟨hbp,⟨rfl,rfl,rfl,rfl,Y03 (rest:=[]) (by rw[Y08]) (Z0c _)⟩,trivial⟩ rfl
               refine Y04 (Y0b rfl rfl) (Y04 (Y06 rfl rfl rfl (Y00 _) (Y00 _) rfl) ?_)
               exact wks
             · have hnew : Zbu N (z :: o1) = ((z :: o1).take j ++ [N]) ++ (z :: o1).drop j := by
                rw[hjp]
                exact Z9Y N _ (λh=>by simp only[<- hjp];exact hyN)
               rw[hnew]at hps
               have e7:((((z::o1)[j]:Nat):Int) != (N:Nat))=true:=by simp;omega
               clear hin
               have hfew2:o1.length+1<=10000:=by simpa using hfew
               rcases j with _|j
               · simp only[Y0j,Y0m,Y0g]at hps
                 have hg0:tk 1 ((nis (z::o1)).drop (0+0*1))=some [.int .i64 (z:Nat)]:=rfl
                 have e30:decide ((0:Int)<((o1.length+1:Nat):Int))=true:=e3
                 have e40:decide (((z:Nat):Int)<(N:Nat))=false:=e4
                 have e60:((0:Int)==((o1.length+1:Nat):Int))=false:=e6
                 have e70:(((z:Nat):Int) != (N:Nat))=true:=e7
                 have hxd:=λ(H:Z00) (f c:Nat) hH=>Zgi (H:=H) (b:=1) (f:=f) (c:=c) (ty:=3) (n:=o1.length+1) (o:=z::o1) (k:=0) hH rfl
                 rw[Y0m]at hxd
                 have hon:=Z4M (z::o1)
                 have hln:=Z0w (z::o1)
                 clear hg e3 e4 e6 e7 hge hyN hjp
                 unfold usB
                 show Z0F _ _
                 rw[Z0d]
                 generalize hK:((k:Nat):Int)=kv at *
                 generalize hK2:((m:Nat):Int)=mv at *
                 generalize hK4:((N:Nat):Int)=nv at *
                 generalize hzz:nis (z::o1)=zz at *
                 simp only[grA,grB,hzz]
                 conv in (Z3s _ _)=>reduce
                 subst hK hK2 hK4
                 repeat' ((conv=>whnf);first|refine exI hg0 ?_|(with_reducible refine ixJ 0 rfl ?_ ?_;focus omega)|(refine exI (Z1m hT (hxd _ _ _ rfl) rfl (Z34 ?_) ?_ ?_ ?_ ?_) ?_;(focus (simp[ZfY,ABody.len]));(focus (simp;try omega));(focus (exact hon));(focus (omega));focus omega)|(refine apS ?_)|(with_reducible refine Zd3 ?_)|(with_reducible refine Zd2 ?_)|refine stp ?_|with_reducible apply Z01<;>intro h)
                 conv=>whnf
                 subst hzz
                 refine⟨m+1,hmt,by show nm.length-(m+1)<nm.length-m;omega,?_⟩
                 dsimp only
                 rw[hps]
                 refine Y02 [0,5] rfl ?_ ⟨hbp,⟨rfl,rfl,rfl,rfl,Y03 (rest:=[]) ?_ (Z0c _)⟩,trivial⟩ rfl
                 · refine Y04 (Y0b rfl rfl) (Y04 (Y06 rfl rfl ?_ (Y00 _) ?_ rfl) ?_)
                   ·first|(simp;done)|(simp;omega)
                   ·first|(simp;done)|(simp;omega)
                   exact wks
                 ·simp[nis]
               · have hxt:=λ(H:Z00) (f c:Nat) hH=>Zgh (H:=H) (b:=1) (f:=f) (c:=c) (ty:=3) (o:=z::o1) (k:=j+1) hH (by simp;omega)
                 have hxd:=λ(H:Z00) (f c:Nat) hH=>Zgi (H:=H) (b:=1) (f:=f) (c:=c) (ty:=3) (n:=o1.length+1) (o:=z::o1) (k:=j+1) hH rfl
                 have hct:(([]:List AV)++nis ((z::o1).take (j+1))).length=(0+(j+1))*1:=by rw[Y0g,Z0w,Y0f,Y0l (by simp;omega)];omega
                 have hcd:(nis ((z::o1).drop (j+1))).length=o1.length+1-(j+1):=by rw[Z0w,Y0D];rfl
                 have hot:=Z4M ((z::o1).take (j+1))
                 have hod:=Z4M ((z::o1).drop (j+1))
                 generalize (z::o1)[j+1]=y at *
                 clear hjp
                 have hT1l:(nis ((z::o1).take (j+1))).length=j+1:=by rw[Z0w,Y0f,Y0l (by simp;omega)]
                 generalize hT1:nis ((z::o1).take (j+1))=T1 at *
                 generalize hD1:nis ((z::o1).drop (j+1))=D1 at *
                 have hTD:(([]:List AV)++T1++[.int .i64 (N:Nat)])++D1=nis ((z::o1).take (j+1)++[N]++(z::o1).drop (j+1)):=by rw[Z2w,Z2w,hT1,hD1];rfl
                 have hTL:((z::o1).take (j+1)++[N]++(z::o1).drop (j+1)).length=o1.length+2:=by simp;omega
                 generalize hLL:(z::o1).take (j+1)++[N]++(z::o1).drop (j+1)=L1 at *
                 obtain⟨a0,r0,rfl⟩:∃a r,L1=a::r:=by
                  cases L1 with
                  |nil=>simp at hTL
                  |cons a r=>exact⟨a,r,rfl⟩
                 have hrl:r0.length=o1.length+1:=by simpa using hTL
                 unfold usB
                 show Z0F _ _
                 rw[Z0d]
                 generalize hK:((k:Nat):Int)=kv at *
                 generalize hK2:((m:Nat):Int)=mv at *
                 generalize hK3:((j+1:Nat):Int)=jv at *
                 generalize hK4:((N:Nat):Int)=nv at *
                 generalize hzz:nis (z::o1)=zz at *
                 simp only[grA,grB,hzz]
                 conv in (Z3s _ _)=>reduce
                 subst hK hK2 hK3 hK4
                 repeat' ((conv=>whnf);first|refine exI hg ?_|(with_reducible refine ixJ (j+1) rfl ?_ ?_;focus omega)|(refine exI (Z1m hT (hxt _ _ _ rfl) rfl (Z34 ?_) ?_ ?_ ?_ ?_) ?_;(focus (simp[ZfY,ABody.len]));(focus (simp;try omega));(focus (exact hot));(focus (omega));focus omega)|(refine exI (Z1m hT (hxd _ _ _ rfl) rfl (Z34 ?_) ?_ ?_ ?_ ?_) ?_;(focus (simp[ZfY,ABody.len]));(focus (simp;try omega));(focus (exact hod));(focus (omega));focus omega)|(refine apS ?_)|(with_reducible refine Zd3 ?_)|(with_reducible refine Zd2 ?_)|refine stp ?_|with_reducible apply Z01<;>intro h)
                 conv=>whnf
                 subst hzz
                 refine⟨m+1,hmt,by show nm.length-(m+1)<nm.length-m;omega,?_⟩
                 dsimp only
                 rw[hps]
                 refine Y02 [0,6] rfl ?_ ⟨hbp,⟨rfl,rfl,rfl,rfl,Y03 (rest:=[]) ?_ (Z0c _)⟩,trivial⟩ rfl
                 · refine Y04 (Y0b rfl rfl) (Y04 (Y06 rfl rfl ?_ (Y00 _) ?_ rfl) ?_)
                   · show _=r0.length+1
                     omega
                   · show r0.length+1<=_
                     omega
                   exact wks
                 ·rw[Y08];exact hTD
           · have hjn : j = o1.length + 1 := by
              simp only[Y0a]at hjl hj0
              omega
             have hnew:Zbu N (z::o1)=((z::o1).take j++[N])++(z::o1).drop j:=by
              rw[hjp]
              exact Z9Y N _ (λh=>absurd h (by rw[<- hjp];exact hjl))
             rw[List.drop_eq_nil_of_le (by simp;omega),Y08]at hnew
             rw[hnew]at hps
             clear hnew hjp hjl
             rcases j with _|j
             ·omega
             have e3:decide ((j+1:Nat)<((o1.length+1:Nat):Int))=false:=by simp;omega
             have e6:(((j+1:Nat):Int)==((o1.length+1:Nat):Int))=true:=by simp;omega
             have hfew2:o1.length+1<=10000:=by simpa using hfew
             have hxt:=λ(H:Z00) (f c:Nat) hH=>Zgh (H:=H) (b:=1) (f:=f) (c:=c) (ty:=3) (o:=z::o1) (k:=j+1) hH (by simp;omega)
             have hxn:=λ(H:Z00) (f c:Nat) (cs:List AV) hH=>Zlw (H:=H) (b:=1) (off:=0+(j+1)*1) (n:=o1.length+1-(j+1)) (c:=c) (ty:=3) (by omega) (f:=f) (cs:=cs) hH
             have hot:=Z4M ((z::o1).take (j+1))
             have hT1l:(nis ((z::o1).take (j+1))).length=j+1:=by rw[Z0w,Y0f,Y0l (by simp;omega)]
             generalize hT1:nis ((z::o1).take (j+1))=T1 at *
             have hTD:([]:List AV)++T1++[.int .i64 (N:Nat)]=nis ((z::o1).take (j+1)++[N]):=by rw[Z2w,hT1];rfl
             have hTL:((z::o1).take (j+1)++[N]).length=o1.length+2:=by simp;omega
             generalize hLL:(z::o1).take (j+1)++[N]=L1 at *
             obtain⟨a0,r0,rfl⟩:∃a r,L1=a::r:=by
              cases L1 with
              |nil=>simp at hTL
              |cons a r=>exact⟨a,r,rfl⟩
             have hrl:r0.length=o1.length+1:=by simpa using hTL
             unfold usB
             show Z0F _ _
             rw[Z0d]
             generalize hK:((k:Nat):Int)=kv at *
             generalize hK2:((m:Nat):Int)=mv at *
             generalize hK3:((j+1:Nat):Int)=jv at *
             generalize hK4:((N:Nat):Int)=nv at *
             generalize hzz:nis (z::o1)=zz at *
             simp only[grA,grB,hzz]
             conv in (Z3s _ _)=>reduce
             subst hK hK2 hK3 hK4
             repeat' ((conv=>whnf);first|(with_reducible refine ixJ (j+1) rfl ?_ ?_;focus omega)|(refine exI (Z1m hT (hxt _ _ _ rfl) rfl (Z34 ?_) ?_ ?_ ?_ ?_) ?_;(focus (simp[ZfY,ABody.len]));(focus (simp;try omega));(focus (exact hot));(focus (omega));focus omega)|refine exI (Z2q hT (hxn _ _ _ _ rfl)) ?_|(refine apS ?_)|(with_reducible refine Zd3 ?_)|(with_reducible refine Zd2 ?_)|refine stp ?_|with_reducible apply Z01<;>intro h)
             conv=>whnf
             subst hzz
             refine⟨m+1,hmt,by show nm.length-(m+1)<nm.length-m;omega,?_⟩
             dsimp only
             rw[hps]
             refine Y02 [0,5] rfl ?_ ⟨hbp,⟨rfl,rfl,rfl,rfl,Y03 (rest:=[]) ?_ (Z0c _)⟩,trivial⟩ rfl
             · refine Y04 (Y0b rfl rfl) (Y04 (Y06 rfl rfl ?_ (Y00 _) ?_ rfl) ?_)
               · show _=r0.length+1
                 omega
               · show r0.length+1<=_
                 omega
               exact wks
             ·rw[Y08];exact hTD
       · have e5:decide (v >= 0)=false:=by simpa using hv0
         rw[ZjF (by rw[hv];exact hv0)]at hps
         have hj0:j=0:=by rw[hj2];exact if_neg hv0
         subst hj0
         clear hj2 hjt hj hpl
         unfold usB
         rcases o1 with _|⟨z,o1⟩
         · simp only[grA,grB]
           show Z0F _ _
           rw[Z0d]
           generalize hK:((k:Nat):Int)=kv at *
           generalize hK2:((m:Nat):Int)=mv at *
           conv in (Z3s _ _)=>reduce
           subst hK hK2
           repeat' ((conv=>whnf);first|(with_reducible refine Z0x ?_)|(with_reducible refine Z0E ?_)|refine stp ?_|with_reducible apply Z01<;>intro h)
           conv=>whnf
           refine⟨m+1,hmt,by show nm.length-(m+1)<nm.length-m;omega,?_⟩
           dsimp only
           rw[hps]
           refine Y02 [0] rfl ?_ ⟨hbp,trivial⟩ rfl
           exact wks
         · have hg:tk 1 ((nis (z::o1)).drop (0+0*1))=some [.int .i64 (z:Nat)]:=rfl
           have e3:decide ((0:Int)<((o1.length+1:Nat):Int))=true:=by simp<;>omega
           have e4:decide (((z:Nat):Int)<v)=false:=by simp;omega
           generalize hzz:nis (z::o1)=zz at *
           simp only[grA,grB,hzz]
           show Z0F _ _
           rw[Z0d]
           generalize hK:((k:Nat):Int)=kv at *
           generalize hK2:((m:Nat):Int)=mv at *
           conv in (Z3s _ _)=>reduce
           subst hK hK2
           repeat' ((conv=>whnf);first|refine exI hg ?_|(with_reducible refine ixJ 0 rfl ?_ ?_;focus omega)|(with_reducible refine Z0x ?_)|(with_reducible refine Z0E ?_)|refine stp ?_|with_reducible apply Z01<;>intro h)
           conv=>whnf
           subst hzz
           refine⟨m+1,hmt,by show nm.length-(m+1)<nm.length-m;omega,?_⟩
           dsimp only
           rw[hps]
           refine Y02 [0,1] rfl ?_ ⟨hbp,⟨rfl,rfl,rfl,rfl,Y03 (rest:=[]) (by rw[Y08]) (Z0c _)⟩,trivial⟩ rfl
           refine Y04 (Y0b rfl rfl) (Y04 (Y06 rfl rfl rfl (Y00 _) (Y00 _) rfl) ?_)
           exact wks
   · have e2:decide ((m:Int)<(nm.length:Int))=false:=by simpa using hmt
     rw[List.take_of_length_le (by omega),<- hnx]at hO1⊢
     generalize ho2:Z7l (ex.take (k+1)) []=o2 at *
     unfold usB
     generalize hgA:grA 1 1 o2=gA
     generalize hgB:grB 1 nis 3 o2=gB
     show Z0F _ _
     rw[Z0d]
     generalize hK:((k:Nat):Int)=kv at *
     generalize hK2:((m:Nat):Int)=mv at *
     conv in (Z3s _ _)=>reduce
     subst hK hK2
     repeat' ((conv=>whnf);first|(with_reducible refine Z0x ?_)|(with_reducible refine Z0E ?_)|refine stp ?_|with_reducible apply Z01<;>intro h)
     conv=>whnf
     subst hgA hgB
     refine⟨k+1,hkt,by show ex.length-(k+1)<ex.length-k;omega,?_⟩
     dsimp only
     rw[ho2]
     clear ho2
     rcases o2 with _|⟨z,o2⟩
     · refine Y02 [0] rfl ?_ ⟨hbp,trivial⟩ rfl
       exact wks
     · refine Y02 [0,1] rfl ?_ ⟨hbp,⟨rfl,rfl,rfl,rfl,Y03 (rest:=[]) (by rw[Y08]) (Z0c _)⟩,trivial⟩ rfl
       refine Y04 (Y0b rfl rfl) (Y04 (Y06 rfl rfl rfl (Y00 _) (Y00 _) rfl) ?_)
       exact wks
 · have e1:decide ((k:Int)<(ex.length:Int))=false:=by simpa using hkt
   have hk2:k=ex.length:=by omega
   subst hk2
   rw[Y0d]at hO0⊢
   generalize Z7l ex []=o at *
   unfold usB
   cases o with
   |nil =>
    repeat' ((conv=>whnf);first|(with_reducible refine Z0x ?_)|(with_reducible refine Z0E ?_)|refine stp ?_|with_reducible apply Z01<;>intro h)
    all_goals exact .inr ⟨rfl,_,rfl⟩
   |cons z o =>
    repeat' ((conv=>whnf);first|(with_reducible refine Z0x ?_)|(with_reducible refine Z0E ?_)|refine stp ?_|with_reducible apply Z01<;>intro h)
    conv=>whnf
    exact⟨_,Z1e (b:=1) rfl (by simp[nis]) (Z1U (z::o)),.inl rfl⟩
end
end Go.Proofs.YthbimonbnaodkaaGreatDoor.lex
end
section
namespace Go.Live
open Go.Flat
variable {us st:Nat->Nat} {nx:Nat->List Nat}
theorem Inv.weaken{n:Nat}{live:Nat->Nat}{w w':List Nat}(h:Inv us st nx n live w)(hw:∀v∈w,v∈w')(hl:∀v∈w',v<n):Inv us st nx n live w' :=
 ⟨h.b32,λv hv hn=>h.done v hv λhm=>hn (hw v hm),h.le,h.snd,hl⟩
def todo(n k:Nat)(again:Bool):List Nat:=if again then List.range n else (List.range k).reverse
theorem todo_lt{n k:Nat}{again:Bool}(hk:k<=n):∀v∈todo n k again,v<n:=λv hv=>by
 unfold todo at hv
 split at hv
 ·exact Y0i.1 hv
 ·have:=Y0i.1 (List.mem_reverse.1 hv);omega
theorem Z8l(k:Nat):(List.range (k+1)).reverse=k::(List.range k).reverse:=by rw[Y0G,List.reverse_append];rfl
theorem Inv.round{n:Nat}{live:Nat->Nat}{w:List Nat}(h:Inv us st nx n live w):Inv us st nx n live (todo n n false) :=
 h.weaken (λv hv=>by unfold todo;simp;exact h.wl v hv) (todo_lt (Y00 _))
theorem Inv.start8(n:Nat):Inv us st nx n (λ_=>0) (todo n n false):=(Inv.start n).round
theorem Inv.keep8{n k:Nat}{live:Nat->Nat}{again:Bool}(h:Inv us st nx n live (todo n (k+1) again))(hk:k<n)(e:stepF us st nx live k=live k):Inv us st nx n live (todo n k again):=by
 cases again with
 |true=>exact h
 |false =>
  have h':Inv us st nx n live (k::(List.range k).reverse):=by rw[<- Z8l];exact h
  exact h'.same e
theorem Inv.new8{n k:Nat}{live:Nat->Nat}{again:Bool}(h:Inv us st nx n live (todo n (k+1) again))(h3:In32 us st)(hk:k<n):Inv us st nx n (upd live k (stepF us st nx live k)) (todo n k true):=by
 have h1:Inv us st nx n live (k::List.range n):=h.weaken (λv hv=>List.mem_cons_of_mem _ (Y0i.2 (h.wl v hv))) (λv hv=>by
  rcases Y0o.1 hv with rfl|hv
  ·exact hk
  ·exact Y0i.1 hv)
 have h2:=h1.new (a:=List.range n) h3 (λu hu _=>Y0i.2 hu) (λu hu=>Y0i.1 hu)
 have ht:todo n k true=List.range n:=rfl
 rw[ht]
 exact h2.weaken (λv hv=>by
  rcases Y0z.1 hv with hv|hv<;>exact hv) (λv hv=>Y0i.1 hv)
theorem Inv.last8{n:Nat}{live:Nat->Nat}(h:Inv us st nx n live (todo n 0 false)):Inv us st nx n live []:=h
def missL(n:Nat)(live:Nat->Nat):Nat:=((List.range n).map λv=>32-(bitsOf (live v)).length).sum
theorem miss_new{n k:Nat}{live:Nat->Nat}{again:Bool}(h:Inv us st nx n live (todo n (k+1) again))(h3:In32 us st)(hk:k<n)(hne:stepF us st nx live k≠live k):missL n (upd live k (stepF us st nx live k))<missL n live:=by
 unfold missL
 refine ZaU (v:=k) (λu hu=>?_) hk ?_
 · by_cases e:u=k
   · subst e
     rw[Z0b]
     have:=Zdo (h.b32 u) (Z6W h3 h.b32 u) (h.le u hu) (λe=>hne e.symm)
     omega
   · rw[Z09 e]
     exact Y00 _
 · rw[Z0b]
   have h1:=Zdo (h.b32 k) (Z6W h3 h.b32 k) (h.le k hk) (λe=>hne e.symm)
   have h2:=bits_le (stepF us st nx live k)
   omega
theorem liveL_few{n regs v:Nat}(hr:regs<=32)(h:∀r,Lv us st nx r v->r<regs):liveL us st nx v=(List.range regs).filter (lvB us st nx v):=by
 unfold liveL
 have e:List.range 32=List.range regs++(List.range (32-regs)).map (regs + ·):=by
  rw[<- List.range_add];congr 1;omega
 rw[e,List.filter_append]
 have:((List.range (32-regs)).map (regs + ·)).filter (lvB us st nx v)=[]:=by
  rw[List.filter_eq_nil_iff]
  intro x hx hx2
  obtain⟨i,hi,rfl⟩:=List.mem_map.1 hx
  have:=h _ (lvB_iff.1 hx2)
  omega
 rw[this,Y08]
theorem lv_used{r v:Nat}{p:Nat->Prop}(h:Lv us st nx r v):∃w,(us w).testBit r=true:=by
 induction h with
 |use h=>exact⟨_,h⟩
 |next _ _ _ ih=>exact ih
end Go.Live
end
section
namespace Go.Proofs.YthbimonbnaodkaaGreatDoor.lex
open Go.Abs Go.RowKit Go.Flat
variable {gl:Z0o}
def Z2f(f:Nat->Nat)(n:Nat):List AV:=arr (λv=>.int .u64 (f v:Nat)) n
theorem ZaP(f:Nat->Nat)(n:Nat):refsL (Z2f f n) []=[]:=Z4x (λ_=>rfl) n
theorem Zjg(f:Nat->Nat)(n:Nat):Z2D n [.int .u64 0]=Z2f (fil 0 f 0) n:=by rw[Z2J];simp[Z2f,fil]
theorem Zgx(n:Nat):Z2D n [.int .u64 0]=Z2f (λ_=>0) n:=by rw[Z2J];simp[Z2f]
theorem ZaO(f:Nat->Nat){n k x:Nat}(h:k<n)(hx:f k=x){off:Nat}(e:off=k):tk 1 ((Z2f f n).drop off)=some [.int .u64 (x:Nat)]:=by
 rw[<- hx];exact Z6I (λv=>AV.int .u64 ((f v:Nat):Int)) h e
theorem Zgy(f:Nat->Nat){n k x:Nat}(h:k<n){off:Nat}(e:off=k):spl (Z2f f n) off [.int .u64 (x:Nat)]=some (Z2f (upd f k x) n):=by
 unfold Z2f
 rw[Z4Y _ _ h e]
 congr 2
 funext v
 by_cases h:v=k
 ·subst h;rw[Z0b,Z0b]
 ·rw[Z09 h,Z09 h]
theorem ZlJ{f:Nat->Nat}{n:Nat}:Z2f (fil 0 f n) n=Z2f f n:=by
 unfold Z2f arr
 refine List.map_congr_left λv hv=>?_
 rw[Y0i]at hv
 simp[fil,hv]
theorem Zjh(f:Nat->Nat)(n:Nat):(Z2f f n).all lit=true:=Zam (λ_=>rfl) n
theorem Zji(f:Nat->Nat)(n:Nat):(Z2f f n).length=n:=Z2B _ _
theorem ZiF{M:Nat}(hM:M<4294967296):Go.Live.andN M 0=M:=by
 apply Nat.eq_of_testBit_eq
 intro i
 rw[Go.Live.andN_bit hM (by decide)]
 simp
theorem ZaX:∀r,r<16->IntKind.u64.wrap (1*2 ^ (min (IntKind.u64.wrap (r:Nat)).toNat IntKind.u64.bits))=((2 ^ r:Nat):Int)/\0<=IntKind.u64.wrap (r:Nat):=by decide +kernel
theorem ZpN{M r:Nat}(hM:M<4294967296)(hr:r<16):bits .or .u64 (M:Nat) (IntKind.u64.wrap (1*2 ^ (min (IntKind.u64.wrap (r:Nat)).toNat IntKind.u64.bits)))=((M ||| 2 ^ r:Nat):Int):=by
 rw[(ZaX r hr).1]
 exact u64_or_nat M (2 ^ r) (by omega) (Nat.lt_of_lt_of_le (Nat.pow_lt_pow_right (by decide) hr) (by decide))
theorem Zp4{M b:Nat}(hM:M<4294967296)(hb:b<4294967296):bits .andNot .u64 (M:Nat) (b:Nat)=((Go.Live.andN M b:Nat):Int):=by
 rw[u64_andNot_nat M b (by omega) (by omega)]
 congr 1
 apply Nat.eq_of_testBit_eq
 intro i
 rw[Go.Live.andN_bit hM hb,Nat.testBit_and,show 18446744073709551615-b=2 ^ 64-(b+1) by omega,Nat.testBit_two_pow_sub_succ (by omega)]
 by_cases hi:i<64
 ·simp[hi]
 ·rw[Go.Live.bit_hi hM (by omega)];simp
def l8H(regs:Int)(l:List Ins)(lf uf:Nat->Nat):Z00:=[⟨true,0,0,.cells [.int .i64 regs,.rs l.length 6 (inC l)] 24⟩,⟨true,1,0,.cells (Z2f lf l.length) 149⟩,⟨true,2,0,.cells (Z2f uf l.length) 149⟩]
theorem FgL.l8 {t0 tm : Tr} {H : Z00} {L : List (Nat × AV)} {regs : Int} {l : List Ins} {lf uf : Nat -> Nat} {c1 c2 : List AV} (h : Ze1 t0 tm = true) (h0 : H[0]? = some ⟨true, 0, 0, .cells [.int .i64 regs, .rs l.length 6 (inC l)] 24⟩) (h1 : H[1]? = some ⟨true, 1, 0, .cells c1 149⟩) (h2 : H[2]? = some ⟨true, 2, 0, .cells c2 149⟩)
  (e1:c1=Z2f lf l.length) (e2:c2=Z2f uf l.length) (hs:SlotsGe [0,1,2] tm L):FgL t0 tm H L (l8H regs l lf uf):=by
 subst e1 e2
 refine Y02 [0,1,2] h hs ⟨Z13 h0 hbp,Z13 h1 ⟨rfl,rfl,rfl,rfl,Y03 (rest:=[]) (by rw[Y08]) (ZaP _ _)⟩,Z13 h2 ⟨rfl,rfl,rfl,rfl,Y03 (rest:=[]) (by rw[Y08]) (ZaP _ _)⟩,trivial⟩ ?_
 simp only[List.map,Z0e,h0,h1,h2]
 rfl
theorem HpD.fix{fs m:List Nat}{H H2:Z00}(h:HpGeD fs H m m H2)(hn:(Z0G H H2 m).Nodup)(hf:∀f∈Z0G H H2 m,mem f fs=false):HpD fs m H H2 where
 len:=h.get.1
 get b o2 hb:=by
  obtain⟨j,o,e1,e2,e3⟩:=h.get.2 b o2 hb
  refine⟨j,o,e1,e2,λhs=>?_,λha=>?_⟩
  · rcases e3 with e3|e3
    ·exact e3.2.2
    ·rw[<- e3.2.2.1];exact hs
  · rcases e3 with e3|⟨k1,k2,k3,k4⟩
    ·rw[e3.1]at ha;cases ha
    · refine⟨k1,k3,?_,k4⟩
      have:=hf _ (Z2z hb ha e1)
      rwa [Z0u e2]at this
 sep b b' o2 o2' j j' h1 h2 h3 h4 h5 h6 h7:=Z7W hn h1 h3 h5 h2 h4 h6 h7
theorem ZlF{c:Cd}(h:Fine c){w r:Nat}(hb:(usU c.ins w).testBit r=true):(r:Int)<c.regs:=by
 unfold usU at hb
 rw[Go.Live.maskL_bit]at hb
 unfold ZhT at hb
 by_cases hw:w<c.ins.length
 · rw[Z15 hw,ZaJ]at hb
   exact ursL_lt _ (Z82 (h.right _ (Z03 hw))) _ hb
 · rw[Z7O (by omega)]at hb
   have:Z1w ⟨13,0,0,0,0,[]⟩=[]:=Y0I (Nat.le_zero.1 (Z58 _))
   rw[this]at hb;cases hb
def gB(live:Nat->Nat)(k r:Nat):List Nat:=(List.range r).filter λq=>(live k).testBit q
theorem ZhZ(live:Nat->Nat)(k r:Nat):gB live k (r+1)=gB live k r++(if (live k).testBit r=true then [r] else []):=by
 unfold gB
 rw[Y0G,List.filter_append]
 congr 1
 by_cases h:(live k).testBit r=true
 ·simp[h]
 ·simp[h]
theorem Zlj(live:Nat->Nat)(k r:Nat):(gB live k r).length<=r:=by
 unfold gB
 exact Nat.le_trans (List.length_filter_le _ _) (by simp)
theorem Zo6{c:Cd}(h:Fine c){live:Nat->Nat}(hI:Go.Live.Inv (usU c.ins) (stU c.ins) (Z0v c.ins) c.ins.length live []){R:Nat}(hR:c.regs=(R:Int)){v:Nat}(hv:v<c.ins.length):gB live v R=Go.Live.liveL (usU c.ins) (stU c.ins) (Z0v c.ins) v:=by
 have h1:=h.reg1
 rw[Go.Live.liveL_few (n:=0) (regs:=R) (by omega) (λr hr=>by
  obtain⟨w,hw⟩:=Go.Live.lv_used (p:=λ_=>True) hr
  have:=ZlF h hw
  omega)]
 unfold gB
 refine List.filter_congr λq _=>?_
 rw[Y0w,Go.Live.lvB_iff]
 exact hI.all h.in32 (λv hv w hw=>h.good.nx8 hv hw) hv q
def rwC(g:Nat->List Nat)(k:Nat):List AV:=arr (λi=>frn 1 (g i).length (nis (g i))) k
theorem Zed(g:Nat->List Nat):rwC g 0=[]:=rfl
theorem ZcK(g:Nat->List Nat)(k:Nat):(rwC g k).length=k:=Z2B _ _
theorem ZmH{H:Z00}{n z m:Nat}{cs:List AV}(h:cs.all lit=true):frz H (n+2) (frn z m cs)=some (frn z m cs):=by
 cases m with
 |zero=>rfl
 |succ m=>rfl
theorem Zby{H:Z00}{n:Nat}(g:Nat->List Nat):∀l:List Nat,Z0T (frz H (n+2)) (l.map λi=>frn 1 (g i).length (nis (g i)))=some (l.map λi=>frn 1 (g i).length (nis (g i)))
 |[]=>rfl
 |i::l=>by
  simp only[Y0u,Z0T,ZmH (Z1U (g i)),Zby g l]
theorem ZjB(g:Nat->List Nat)(k:Nat):refsL (rwC g k) []=[]:=Z4x (λi=>by cases h:(g i).length<;>rfl) k
theorem Zee(g:Nat->List Nat)(k:Nat):rwC g (k+1)=rwC g k++[frn 1 (g k).length (nis (g k))]:=by
 unfold rwC arr
 rw[Y0G,List.map_append];rfl
theorem Zl4(g:Nat->List Nat)(k:Nat):rwC g (k+1)≠[]:=λe=>by have:=congrArg List.length e;rw[ZcK]at this;simp at this
theorem Znw{fs m:List Nat}{H:Z00}{b f n cap:Nat}{g h:Nat->Nat}{ty:TypeId}(h1:H[b]? = some ⟨true,f,0,.cells (Z2f g n) ty⟩)(hm:mem f fs=true)(e:Z2f g n=Z2f h n):WkW fs H m (.slice b 0 n cap 1) (.rs n 1 (Z2f h n)):=by
 rw[e]at h1
 exact .inl (.inr (Z1e (Z3e h1 hm) (by rw[Zji,Nat.mul_one]) (Zjh _ _)))
theorem ZgM{x r:Nat}(hr:r<64):(Int.tmod ((x:Int).fdiv (2 ^ (min (IntKind.u64.wrap (r:Nat)).toNat IntKind.u64.bits))) 2==1)=x.testBit r:=by
 have h1:IntKind.u64.wrap (r:Nat)=(r:Int):=by
  simp only[IntKind.wrap,IntKind.signed,IntKind.bits]
  simp
  omega
 have h2:min (IntKind.u64.wrap (r:Nat)).toNat IntKind.u64.bits=r:=by
  rw[h1]
  simp only[Y0t,IntKind.bits]
  omega
 rw[h2]
 have h3:(x:Int).fdiv (2 ^ r)=((x / 2 ^ r:Nat):Int):=by
  rw[Int.fdiv_eq_ediv_of_nonneg _ (by exact Int.le_of_lt (Int.pow_pos (by decide)))]
  norm_cast
 rw[h3,Nat.testBit_eq_decide_div_mod_eq]
 have h4:Int.tmod ((x / 2 ^ r:Nat):Int) 2=((x / 2 ^ r % 2:Nat):Int):=rfl
 rw[h4]
 rw[Y0w]
 simp only[beq_iff_eq,decide_eq_true_eq]
 omega
theorem ZfT{H:Z00}{n b f sh len cap z:Nat}{cs:List AV}{ty:TypeId}(hH:H[b]? = some ⟨true,f,sh,.cells cs ty⟩)(hc:cs.length=len*z)(h2:Z0T (frz H (n+1)) cs=some cs):frz H (n+2) (.slice b 0 len cap z)=some (.rs len z cs):=by
 cases len with
 |zero =>
  have:cs=[]:=Y0I (by omega)
  subst this;rfl
 |succ m =>
  unfold frz
  simp only[hH,Y0m,Z6s hc]
  rw[h2]
theorem Zk5(c:Cd)(hok:okC c)(hc:Z2o c=0)(hs:∀i∈c.ins,∀e∈i.ex,Z0a e<=800000):ValOK Y01 runLives.gl 42 [c.av] (.rs c.ins.length 1 (arr (λv=>Z1a (Go.Live.liveL (usU c.ins) (stU c.ins) (Z0v c.ins) v)) c.ins.length)):=by
 have hck:=Z1d (gl:=runLives.gl) c hok hs
 rw[hc]at hck
 have hfine:=Z2j hc
 have hg:=hfine.good
 have hU:=λv (hv:v<c.ins.length)=>hfine.uses hv
 have hS:=λv (hv:v<c.ins.length)=>hfine.sets hv
 have h32:=hfine.in32
 obtain⟨regs,l⟩:=c
 simp only[Cd.av]at *
 have hp:=hg.pos
 have hf:=hg.few
 have hx2:=hok.2
 simp only at hx2
 obtain⟨O,hO,p1,p2,p3,p4,-⟩:=fams (P:=Y01) (gl:=runLives.gl) [{ I:=Unit,f:=10,G:=λ_=>True,A:=λ_=>[.agg [.int .i64 regs,.rs l.length 6 (inC l)]],R:=λ_=>.int .i64 0,body:=(by kernel_rfl),inj:=λ_ _ _ _ _=>rfl,ok:=λ_ _=>⟨rfl,hck⟩ },
  { I:=Nat,f:=55,G:=λa=>a<l.length,A:=λa=>[.agg [.int .i64 regs,.rs l.length 6 (inC l)],.int .i64 a],R:=λa=>Z1a (Z0v l a),body:=(by kernel_rfl),inj:=(λi j _ _ h=>by simp only[List.cons.injEq,AV.int.injEq,and_true,true_and]at h;rw[show i=j by omega]),ok:=λa ha=>⟨rfl,Z9P regs l a ha hf (hg.to a ha)⟩ },
  { I:=Ins,f:=37,G:=λi=>i∈l,A:=λi=>[.agg (icells i)],R:=λi=>Z1a (Z1w i),body:=(by kernel_rfl),inj:=(λi j _ _ h=>by simp only[List.cons.injEq,AV.agg.injEq,and_true]at h;rw[Z1g h]),ok:=λi hi=>⟨rfl,ZdN i (hx2 i hi).1 (hx2 i hi).2 (hs i hi)⟩ },
  { I:=Ins,f:=39,G:=λi=>True,A:=λi=>[.agg (icells i)],R:=λi=>.int .i64 (Z2g i),body:=(by kernel_rfl),inj:=(λi j _ _ h=>by simp only[List.cons.injEq,AV.agg.injEq,and_true]at h;rw[Z1g h]),ok:=λi hi=>⟨rfl,Ze8 i⟩ }] rfl
 have q1:∀H,Z02 Y01 O H 10 [.agg [.int .i64 regs,.rs l.length 6 (inC l)]]=some (.int .i64 0,H):=p1 () trivial
 have q2:∀a,a<l.length->∀H,Z02 Y01 O H 55 [.agg [.int .i64 regs,.rs l.length 6 (inC l)],.int .i64 a]=some (Z1a (Z0v l a),H):=p2
 have q3:∀i,i∈l->∀H,Z02 Y01 O H 37 [.agg (icells i)]=some (Z1a (Z1w i),H):=p3
 have q4:∀i H,Z02 Y01 O H 39 [.agg (icells i)]=some (.int .i64 (Z2g i),H):=λi=>p4 i trivial
 clear p1 p2 p3 p4 hck hc
 have hzu:tsz Y01 149=some 1:=by kernel_rfl
 have hbu:(Y01.info? 149).map (·.bytes)=some 8:=by kernel_rfl
 have huu:Z2k Y01 149=some (.int .u64 0):=by kernel_rfl
 have mu:=λH=>Z7F (H:=H) Tryz.underlying148 hzu hbu huu rfl (by decide) l.length (by omega) (by omega)
 refine ValOK.res (r:=.rs l.length 1 (arr (λv=>frn 1 (Go.Live.liveL (usU l) (stU l) (Z0v l) v).length (nis (Go.Live.liveL (usU l) (stU l) (Z0v l) v))) l.length)) ?_ (Z9u (z:=1) (len:=λv=>(Go.Live.liveL (usU l) (stU l) (Z0v l) v).length) (g:=λv=>nis (Go.Live.liveL (usU l) (stU l) (Z0v l) v)) (λi _=>by rw[Z0w,Nat.mul_one]) (λi _=>Z1U _))
 have hx6:=λk hk=>in6 l k hk
 refine Z05 follows Z07 hO Tryz.func42 rfl ?_
 repeat' ((conv=>whnf);first|refine exI (q1 _) ?_|refine exI (mu _) ?_|refine stp ?_|with_reducible apply Z01<;>intro h)
 conv=>whnf
 refine⟨Nat,(λk=>k<=l.length),(λk=>[(1,.ptr 0 0),(3,.slice 1 0 l.length l.length 1),(4,.slice 2 0 l.length l.length 1),(5,.int .i64 (k:Nat))]),(λk=>l8H regs l (λ_=>0) (fil 0 (usU l) k)),(λk=>l.length-k),⟨0,Y09 _,?_⟩,?_⟩
 · refine FgL.l8 rfl rfl rfl rfl (Zgx _) (Zjg _ _) ?_
   exact wks
 intro k hk
 dsimp only at hk⊢
 by_cases hlt:k<l.length
 · have e1:decide ((k:Int)<(l.length:Int))=true:=by simpa using hlt
   have hxk:=hx6 k hlt
   have q3k:=q3 l[k] (Z03 hlt)
   have hUk:=hU k hlt
   unfold ZhT at hUk
   rw[Z15 hlt]at hUk
   have hUl:(Z1w l[k]).length<=10000:=by
    rw[<- ZdP];exact (OutOK.nil.uses l[k].ex).few
   have huk:usU l k=Go.Live.maskL (Z1w l[k]):=by unfold usU ZhT;rw[Z15 hlt]
   generalize l[k]=ik at *
   simp only[Z1a]at q3k
   generalize Z1w ik=U at *
   obtain⟨yk,yr,yl,yo,yt,ex⟩:=ik
   simp only[icells]at *
   unfold l8H
   generalize hf0:fil 0 (usU l) k=f0 at *
   generalize hc1:Z2f (λ_=>0) l.length=c1
   generalize hc2:Z2f f0 l.length=c2
   generalize hnU:nis U=nU
   rw[hnU]at q3k
   repeat' ((conv=>whnf);first|refine exI hxk ?_|refine exI (q3k _) ?_|(with_reducible refine ixJ k rfl ?_ ?_;focus omega)|refine stp ?_|with_reducible apply Z01<;>intro h)
   conv=>whnf
   subst hc1 hc2
   refine⟨Nat,(λj=>j<=U.length),(λj=>[(1,.ptr 0 0),(3,.slice 1 0 l.length l.length 1),(4,.slice 2 0 l.length l.length 1),(5,.int .i64 (k:Nat)),(6,.rs U.length 1 (nis U)),(7,.int .i64 (j:Nat))]),(λj=>l8H regs l (λ_=>0) (upd f0 k (Go.Live.maskL (U.take j)))),(λj=>U.length-j),⟨0,Y09 _,?_⟩,?_⟩
   · refine FgL.l8 rfl rfl rfl rfl rfl (by rw[show Go.Live.maskL (U.take 0)=0 from rfl,<- hf0,ZeT]) ?_
     subst hnU
     exact wks
   intro j hj
   dsimp only at hj⊢
   by_cases hjt:j<U.length
   · have e2:decide ((j:Int)<(U.length:Int))=true:=by simpa using hjt
     have hrj:=hUk U[j] (Y0p hjt)
     have hmt:=Go.Live.maskL_take hjt
     have hxj:∀off,off=j->tk 1 ((nis U).drop off)=some [.int .i64 (U[j]:Nat)]:=λoff e=>Z3Q U hjt e
     generalize U[j]=r at *
     have hM:Go.Live.maskL (U.take j)<4294967296:=Go.Live.maskL_lt λr hr=>by have:=hUk r (List.mem_of_mem_take hr);omega
     generalize hMM:Go.Live.maskL (U.take j)=M at *
     have hua:=ZaO (upd f0 k M) (n:=l.length) (off:=0+k*1) hlt (Z0b _ _ _) (by omega)
     have hus:=Zgy (upd f0 k M) (n:=l.length) (x:=M ||| 2 ^ r) (off:=0+k*1) hlt (by omega)
     rw[<- ZpN hM hrj,Z7m]at hus
     have hw0:=(ZaX r hrj).2
     unfold l8H
     rw[hnU]at hxj⊢
     generalize hc1:Z2f (λ_=>0) l.length=c1
     generalize hc2:Z2f (upd f0 k M) l.length=c2 at *
     repeat' ((conv=>whnf);first|refine exI (hxj _ (by show j*1=j;omega)) ?_|refine exI hua ?_|(refine Y04 hw0 ?_)|refine exI hus ?_|(with_reducible refine ixJ j rfl ?_ ?_;focus omega)|(with_reducible refine ixJ k rfl ?_ ?_;focus omega)|refine stp ?_|with_reducible apply Z01<;>intro h)
     conv=>whnf
     subst hc1
     refine⟨j+1,hjt,by show U.length-(j+1)<U.length-j;omega,?_⟩
     (try dsimp only)
     rw[hmt]
     refine FgL.l8 rfl rfl rfl rfl rfl rfl ?_
     exact wks
   · have e2:decide ((j:Int)<(U.length:Int))=false:=by simpa using hjt
     have hj2:j=U.length:=by omega
     subst hj2
     have hfs:upd f0 k (usU l k)=fil 0 (usU l) (k+1):=by rw[<- hf0,Z4v]
     rw[Y0d,<- huk,hfs,hnU]
     unfold l8H
     generalize hc1:Z2f (λ_=>0) l.length=c1
     generalize hc2:Z2f (fil 0 (usU l) (k+1)) l.length=c2
     repeat' ((conv=>whnf);first|refine stp ?_|with_reducible apply Z01<;>intro h)
     conv=>whnf
     subst hc1 hc2
     refine⟨k+1,hlt,by show l.length-(k+1)<l.length-k;omega,?_⟩
     refine FgL.l8 rfl rfl rfl rfl rfl rfl ?_
     exact wks
 · have e1:decide ((k:Int)<(l.length:Int))=false:=by simpa using hlt
   have hk2:k=l.length:=by omega
   subst hk2
   unfold l8H
   rw[ZlJ]
   generalize hc1:Z2f (λ_=>0) l.length=c1
   generalize hc2:Z2f (usU l) l.length=c2
   repeat' ((conv=>whnf);first|refine stp ?_|with_reducible apply Z01<;>intro h)
   conv=>whnf
   subst hc1 hc2
   refine⟨(Nat->Nat)×Bool,(λp=>Go.Live.Inv (usU l) (stU l) (Z0v l) l.length p.1 (Go.Live.todo l.length 0 p.2)),(λp=>[(1,.ptr 0 0),(3,.slice 1 0 l.length l.length 1),(4,.slice 2 0 l.length l.length 1),(8,.bool p.2)]),(λp=>l8H regs l p.1 (usU l)),(λp=>2*Go.Live.missL l.length p.1+(if p.2 then 1 else 0)),⟨((λ_=>0),true),?_,?_⟩,?_⟩
   ·exact (Go.Live.Inv.start8 l.length).weaken (λv hv=>by simpa[Go.Live.todo]using hv) (Go.Live.todo_lt (Y09 _))
   · refine FgL.l8 rfl rfl rfl rfl rfl rfl ?_
     exact wks
   rintro⟨live,again⟩ hI
   dsimp only at hI⊢
   cases again with
   |true =>
    have hI0:=hI.round
    have e2:decide (((l.length:Nat):Int)-1 >= 0)=true:=by simp;omega
    have w1:IntKind.i64.wrap (((l.length:Nat):Int)-1)=((l.length:Nat):Int)-1:=Z2r (by omega) (by omega)
    unfold l8H
    generalize hc1:Z2f live l.length=c1
    generalize hc2:Z2f (usU l) l.length=c2
    repeat' ((conv=>whnf);first|(with_reducible refine exW w1 ?_)|refine stp ?_|with_reducible apply Z01<;>intro h)
    conv=>whnf
    subst hc1 hc2
    refine⟨Nat×(Nat->Nat)×Bool,(λp=>p.1<=l.length/\Go.Live.Inv (usU l) (stU l) (Z0v l) l.length p.2.1 (Go.Live.todo l.length p.1 p.2.2)/\(p.2.2=true->Go.Live.missL l.length p.2.1<Go.Live.missL l.length live)/\(p.2.2=false->p.2.1=live)),(λp=>[(1,.ptr 0 0),(3,.slice 1 0 l.length l.length 1),(4,.slice 2 0 l.length l.length 1),(8,.bool p.2.2),(9,.int .i64 ((p.1:Nat)-1))]),(λp=>l8H regs l p.2.1 (usU l)),(λp=>p.1),⟨(l.length,live,false),⟨Y00 _,hI0,λh=>Bool.noConfusion h,λ_=>rfl⟩,?_⟩,?_⟩
    · refine FgL.l8 rfl rfl rfl rfl rfl rfl ?_
      exact wks
    rintro⟨kk,lv,ag⟩ ⟨g1,g2,g3,g4⟩
    dsimp only at g1 g2 g3 g4⊢
    rcases kk with _|m
    · unfold l8H
      generalize hc1:Z2f lv l.length=c1
      generalize hc2:Z2f (usU l) l.length=c2
      have e3:decide (((0:Nat):Int)-1 >= 0)=false:=by decide
      repeat' ((conv=>whnf);first|refine stp ?_|with_reducible apply Z01<;>intro h)
      conv=>whnf
      subst hc1 hc2
      refine⟨(lv,ag),g2,?_,?_⟩
      · cases ag with
        |true=>have:=g3 rfl;simp;omega
        |false=>rw[g4 rfl];simp
      · refine FgL.l8 rfl rfl rfl rfl rfl rfl ?_
        exact wks
    · have hm:m<l.length:=g1
      have e3:decide (((m+1:Nat):Int)-1 >= 0)=true:=by simp<;>omega
      have hmm:((m+1:Nat):Int)-1=(m:Int):=by omega
      rw[hmm]at e3⊢
      have q2m:=q2 m hm
      have hn2:=Z61 l m
      have hxm:=hx6 m hm
      have q4m:=q4 l[m]
      have hnxv:∀w∈Z0v l m,w<l.length:=λw hw=>hg.nx8 hm hw
      have hJ32:∀j,Go.Live.joinN lv ((Z0v l m).take j)<4294967296:=λj=>Go.Live.joinN_lt g2.b32
      have hl32:=g2.b32
      have hsr:=hS m hm
      rw[Z15 hm]at hsr
      have hsk:stU l m=Zlp (Z2g l[m]):=by unfold stU;rw[Z15 hm]
      have hstep:Go.Live.stepF (usU l) (stU l) (Z0v l) lv m=usU l m ||| Go.Live.andN (Go.Live.joinN lv (Z0v l m)) (stU l m):=rfl
      have hkeep:=g2.keep8 hm
      have hnew:=g2.new8 h32 hm
      have hmiss:=Go.Live.miss_new g2 h32 hm
      have hu32:=h32.us m
      have hs32:=h32.st m
      have hxU:=ZaO (usU l) (n:=l.length) (off:=0+m*1) hm rfl (by omega)
      have hxL:=ZaO lv (n:=l.length) (off:=0+m*1) hm rfl (by omega)
      have hset:=Zgy lv (n:=l.length) (x:=Go.Live.stepF (usU l) (stU l) (Z0v l) lv m) (off:=0+m*1) hm (by omega)
      generalize hik:l[m]=ik at *
      obtain⟨yk,yr,yl,yo,yt,ex⟩:=ik
      simp only[icells]at *
      generalize hF:Go.Live.stepF (usU l) (stU l) (Z0v l) lv m=F at *
      generalize hnx:Z0v l m=nxv at *
      simp only[Z1a]at q2m
      unfold l8H
      generalize hc1:Z2f lv l.length=c1
      generalize hc2:Z2f (usU l) l.length=c2
      repeat' ((conv=>whnf);first|refine exI (q2m _) ?_|refine stp ?_|with_reducible apply Z01<;>intro h)
      conv=>whnf
      subst hc1 hc2
      refine⟨Nat,(λj=>j<=nxv.length),(λj=>[(1,.ptr 0 0),(3,.slice 1 0 l.length l.length 1),(4,.slice 2 0 l.length l.length 1),(8,.bool ag),(9,.int .i64 (m:Nat)),(10,.int .u64 (Go.Live.joinN lv (nxv.take j):Nat)),(11,.rs nxv.length 1 (nis nxv)),(12,.int .i64 (j:Nat))]),(λj=>l8H regs l lv (usU l)),(λj=>nxv.length-j),⟨0,Y09 _,?_⟩,?_⟩
      · refine FgL.l8 rfl rfl rfl rfl rfl rfl ?_
        exact wks
      intro j hj
      dsimp only at hj⊢
      by_cases hjt:j<nxv.length
      · have e4:decide ((j:Int)<(nxv.length:Int))=true:=by simpa using hjt
        have hxj:∀off,off=j->tk 1 ((nis nxv).drop off)=some [.int .i64 (nxv[j]:Nat)]:=λoff e=>Z3Q nxv hjt e
        have hwl:=hnxv nxv[j] (Y0p hjt)
        have hjn:=Go.Live.joinN_take (live:=lv) hjt
        have hor:=u64_or_nat (Go.Live.joinN lv (nxv.take j)) (lv nxv[j]) (by have:=hJ32 j;omega) (by have:=hl32 nxv[j];omega)
        rw[<- hjn]at hor
        generalize nxv[j]=w at *
        have hxw:=ZaO lv (n:=l.length) (off:=0+w*1) hwl rfl (by omega)
        generalize Go.Live.joinN lv (nxv.take j)=J at *
        generalize hJJ1:Go.Live.joinN lv (nxv.take (j+1))=J1 at *
        unfold l8H
        generalize hc1:Z2f lv l.length=c1 at *
        generalize hc2:Z2f (usU l) l.length=c2 at *
        generalize hnN:nis nxv=nN at *
        repeat' ((conv=>whnf);first|refine exI (hxj _ (by show j*1=j;omega)) ?_|refine exI hxw ?_|(with_reducible refine ixJ j rfl ?_ ?_;focus omega)|(with_reducible refine ixJ w rfl ?_ ?_;focus omega)|refine stp ?_|with_reducible apply Z01<;>intro h)
        conv=>whnf
        subst hc1 hc2 hnN
        refine⟨j+1,hjt,by show nxv.length-(j+1)<nxv.length-j;omega,?_⟩
        (try dsimp only)
        rw[hJJ1]
        refine FgL.l8 rfl rfl rfl rfl rfl rfl ?_
        iterate 5 refine stw ?_
        refine Y04 (Y05 hor) ?_
        exact wks
      · have e4:decide ((j:Int)<(nxv.length:Int))=false:=by simpa using hjt
        have hj2:j=nxv.length:=by omega
        subst hj2
        have hJv:=hJ32 nxv.length
        rw[Y0d]at hJv⊢
        generalize Go.Live.joinN lv nxv=J at *
        clear hJ32
        have hx6m:=hxm
        clear hxm
        by_cases h0:0<=Z2g ⟨yk,yr,yl,yo,yt,ex⟩
        · obtain⟨r,hr⟩:∃r:Nat,Z2g ⟨yk,yr,yl,yo,yt,ex⟩=(r:Int):=⟨(Z2g ⟨yk,yr,yl,yo,yt,ex⟩).toNat,by omega⟩
          rw[hr]at hsr q4m hsk
          have hr16:r<16:=by omega
          have hst2:stU l m=2 ^ r:=by rw[hsk];unfold Zlp;rw[if_pos (by omega),Y0t]
          have hp32:2 ^ r<4294967296:=Nat.lt_of_lt_of_le (Nat.pow_lt_pow_right (by decide) hr16) (by decide)
          have hnow:bits .or .u64 (bits .andNot .u64 (J:Nat) (IntKind.u64.wrap (1*2 ^ (min (IntKind.u64.wrap (r:Nat)).toNat IntKind.u64.bits)))) (usU l m:Nat)=((F:Nat):Int):=by
           rw[(ZaX r hr16).1,Zp4 hJv hp32,u64_or_nat _ _ (by have:=Go.Live.andN_lt (b:=2 ^ r) hJv;omega) (by omega),hstep,hst2,Nat.or_comm]
          have hw0:=(ZaX r hr16).2
          have e5:decide (((r:Nat):Int) >= 0)=true:=by simp
          rw[<- hnow]at hset
          clear hstep hst2 hsk
          generalize hus:usU l m=us at *
          generalize hlm:lv m=lm at *
          have w2:IntKind.i64.wrap ((m:Int)-1)=(m:Int)-1:=Z2r (by omega) (by omega)
          unfold l8H
          by_cases hq:F=lm
          · have hne:(bits .or .u64 (bits .andNot .u64 (J:Nat) (IntKind.u64.wrap (1*2 ^ (min (IntKind.u64.wrap (r:Nat)).toNat IntKind.u64.bits)))) (us:Nat) != ((lm:Nat):Int))=false:=by rw[hnow,hq];simp
            generalize hc1:Z2f lv l.length=c1 at *
            generalize hc2:Z2f (usU l) l.length=c2 at *
            generalize hnN:nis nxv=nN at *
            repeat' ((conv=>whnf);first|refine exI hx6m ?_|refine exI (q4m _) ?_|refine exI hxU ?_|refine exI hxL ?_|(refine Y04 hw0 ?_)|(with_reducible refine exW w2 ?_)|(with_reducible refine ixJ m rfl ?_ ?_;focus omega)|refine stp ?_|with_reducible apply Z01<;>intro h)
            conv=>whnf
            subst hc1 hc2 hnN
            refine⟨(m,lv,ag),⟨by show m<=l.length;omega,hkeep hq,g3,g4⟩,Y0A m,?_⟩
            refine FgL.l8 rfl rfl rfl rfl rfl rfl ?_
            exact wks
          · have hne:(bits .or .u64 (bits .andNot .u64 (J:Nat) (IntKind.u64.wrap (1*2 ^ (min (IntKind.u64.wrap (r:Nat)).toNat IntKind.u64.bits)))) (us:Nat) != ((lm:Nat):Int))=true:=by rw[hnow];simp;omega
            generalize hc1:Z2f lv l.length=c1 at *
            generalize hc2:Z2f (usU l) l.length=c2 at *
            generalize hnN:nis nxv=nN at *
            repeat' ((conv=>whnf);first|refine exI hx6m ?_|refine exI (q4m _) ?_|refine exI hxU ?_|refine exI hxL ?_|refine exI hset ?_|(refine Y04 hw0 ?_)|(with_reducible refine exW w2 ?_)|(with_reducible refine ixJ m rfl ?_ ?_;focus omega)|refine stp ?_|with_reducible apply Z01<;>intro h)
            conv=>whnf
            subst hc1 hc2 hnN
            refine⟨(m,upd lv m F,true),⟨by show m<=l.length;omega,hnew,λ_=>?_,λh=>Bool.noConfusion h⟩,Y0A m,?_⟩
            · have h1:=hmiss hq
              show Go.Live.missL l.length (upd lv m F)<_
              cases ag with
              |true=>have:=g3 rfl;omega
              |false=>rw[<- g4 rfl];exact h1
            · refine FgL.l8 rfl rfl rfl rfl rfl rfl ?_
              exact wks
        · have hst2:stU l m=0:=by rw[hsk];unfold Zlp;rw[if_neg h0]
          have hnow:bits .or .u64 (J:Nat) (usU l m:Nat)=((F:Nat):Int):=by
           rw[u64_or_nat _ _ (by omega) (by omega),hstep,hst2,ZiF hJv,Nat.or_comm]
          have e5:decide (Z2g ⟨yk,yr,yl,yo,yt,ex⟩ >= 0)=false:=by simpa using h0
          generalize Z2g ⟨yk,yr,yl,yo,yt,ex⟩=sv at *
          have hw0:=True.intro
          rw[<- hnow]at hset
          clear hstep hst2 hsk
          generalize hus:usU l m=us at *
          generalize hlm:lv m=lm at *
          have w2:IntKind.i64.wrap ((m:Int)-1)=(m:Int)-1:=Z2r (by omega) (by omega)
          unfold l8H
          by_cases hq:F=lm
          · have hne:(bits .or .u64 (J:Nat) (us:Nat) != ((lm:Nat):Int))=false:=by rw[hnow,hq];simp
            generalize hc1:Z2f lv l.length=c1 at *
            generalize hc2:Z2f (usU l) l.length=c2 at *
            generalize hnN:nis nxv=nN at *
            repeat' ((conv=>whnf);first|refine exI hx6m ?_|refine exI (q4m _) ?_|refine exI hxU ?_|refine exI hxL ?_|(refine Y04 hw0 ?_)|(with_reducible refine exW w2 ?_)|(with_reducible refine ixJ m rfl ?_ ?_;focus omega)|refine stp ?_|with_reducible apply Z01<;>intro h)
            conv=>whnf
            subst hc1 hc2 hnN
            refine⟨(m,lv,ag),⟨by show m<=l.length;omega,hkeep hq,g3,g4⟩,Y0A m,?_⟩
            refine FgL.l8 rfl rfl rfl rfl rfl rfl ?_
            exact wks
          · have hne:(bits .or .u64 (J:Nat) (us:Nat) != ((lm:Nat):Int))=true:=by rw[hnow];simp;omega
            generalize hc1:Z2f lv l.length=c1 at *
            generalize hc2:Z2f (usU l) l.length=c2 at *
            generalize hnN:nis nxv=nN at *
            repeat' ((conv=>whnf);first|refine exI hx6m ?_|refine exI (q4m _) ?_|refine exI hxU ?_|refine exI hxL ?_|refine exI hset ?_|(refine Y04 hw0 ?_)|(with_reducible refine exW w2 ?_)|(with_reducible refine ixJ m rfl ?_ ?_;focus omega)|refine stp ?_|with_reducible apply Z01<;>intro h)
            conv=>whnf
            subst hc1 hc2 hnN
            refine⟨(m,upd lv m F,true),⟨by show m<=l.length;omega,hnew,λ_=>?_,λh=>Bool.noConfusion h⟩,Y0A m,?_⟩
            · have h1:=hmiss hq
              show Go.Live.missL l.length (upd lv m F)<_
              cases ag with
              |true=>have:=g3 rfl;omega
              |false=>rw[<- g4 rfl];exact h1
            · refine FgL.l8 rfl rfl rfl rfl rfl rfl ?_
              exact wks
   |false =>
    have hI1:=hI.last8
    unfold l8H
    generalize hc1:Z2f live l.length=c1
    generalize hc2:Z2f (usU l) l.length=c2
    repeat' ((conv=>whnf);first|refine stp ?_|with_reducible apply Z01<;>intro h)
    conv=>whnf
    subst hc1 hc2
    obtain⟨R,hR⟩:∃R:Nat,regs=(R:Int):=⟨regs.toNat,by have:=hfine.reg0;simp only at this;omega⟩
    have hR16:R<=16:=by have:=hfine.reg1;simp only at this;omega
    have hall:=λv (hv:v<l.length)=>Zo6 hfine hI1 hR (v:=v) hv
    have hb32:=hI1.b32
    have hT:Z7e Y01 31 31=some (3,1,8):=by kernel_rfl
    have hT2:Z7e Y01 62 62=some (31,1,24):=by kernel_rfl
    simp only at hall
    refine⟨Nat,(λk=>k<=l.length),(λk=>[(1,.ptr 0 0),(3,.rs l.length 1 (Z2f live l.length)),(13,grn 1 1 k),(14,.int .i64 (k:Nat))]),(λk=>[⟨true,0,0,.cells [.int .i64 regs,.rs l.length 6 (inC l)] 24⟩,inb 1 31 (rwC (λi=>gB live i R) k)]),(λk=>l.length-k),⟨0,Y09 _,?_⟩,?_⟩
    · refine Y0e [1] [0,0] rfl rfl ?_ (HpD.fix ⟨Z13 rfl (.inr ⟨rfl,rfl,rfl,Y0c (Y03 (rest:=[]) rfl rfl)⟩),Z13 rfl (.inl ⟨rfl,rfl,rfl⟩),trivial⟩ (by simp[Z0G,Z0e,inb,rwC,arr]) (λf hf=>by simp[Z0G,Z0e,inb,rwC,arr]at hf;subst hf;rfl))
      refine Y04 (WkW.wk (Y0b rfl rfl)) (Y04 (Znw rfl rfl rfl) (Y04 (WkW.wk (Y07 rfl)) (Y04 (WkW.wk (Y05 rfl)) trivial)))
    intro k hk
    dsimp only at hk⊢
    by_cases hlt:k<l.length
    · have e1:decide ((k:Int)<(l.length:Int))=true:=by simpa using hlt
      have hxL:=ZaO live (n:=l.length) (off:=k*1) hlt rfl (by omega)
      have hlk:=hb32 k
      generalize hlL:Z2f live l.length=cL at *
      rcases k with _|k
      · have hrs:=Zee (λi=>gB live i R) 0
        show Z0F _ _
        generalize hI2:(((0:Nat):Nat):Int)=iv at *
        repeat' ((conv=>whnf);first|refine stp ?_|with_reducible apply Z01<;>intro h)
        conv=>whnf
        subst hI2
        refine⟨Nat,(λr=>r<=R),(λr=>[(1,.ptr 0 0),(3,.rs l.length 1 cL),(13,.nslice),(14,.int .i64 ((0:Nat):Int)),(15,grn 2 1 (gB live (0) r).length),(16,.int .i64 (r:Nat))]),(λr=>[⟨true,0,0,.cells [.int .i64 regs,.rs l.length 6 (inC l)] 24⟩,⟨false,1,0,.cells [] 31⟩,inb 2 3 (nis (gB live (0) r))]),(λr=>R-r),⟨0,Y09 _,?_⟩,?_⟩
        · refine Y0e [] [0,0,0] rfl rfl (SlotsGe.w ?_) (HpD.fix ⟨Z13 rfl (.inr ⟨rfl,rfl,rfl,Y0c (Y03 (rest:=[]) rfl rfl)⟩),Z13 rfl (.inl ⟨rfl,rfl,rfl⟩),Z13 rfl (.inl ⟨rfl,rfl,rfl⟩),trivial⟩ (by simp[Z0G,Z0e,inb,gB,nis]) (λ_ _=>rfl))
          exact wks
        intro r hr
        dsimp only at hr⊢
        have hrg:=Zlj live (0) r
        have hgs:=ZhZ live (0) r
        have hbit:=ZgM (x:=live (0)) (r:=r) (by omega)
        have hgR:r=R->gB live (0) r=gB live (0) R:=λe=>by rw[e]
        cases hgb:gB live (0) r with
        |nil =>
         rw[hgb]at hgs hrg
         rw[show inb 2 3 (nis [])=⟨false,2,0,.cells [] 3⟩ from rfl]
         simp only[grn,Y0h]
         by_cases hrt:r<R
         · have e3:decide ((r:Int)<regs)=true:=by rw[hR];simpa using hrt
           have hw1:=(ZaX r (by omega)).2
           cases hbt:(live (0)).testBit r with
           |true =>
            rw[hbt]at hbit
            rw[hbt,if_pos rfl]at hgs
            generalize live (0)=lk at *
            repeat' ((conv=>whnf);first|refine exI hxL ?_|(refine Y04 hw1 ?_)|(refine Y04 (show (2:Int)≠0 by decide) ?_)|(refine apS ?_)|(with_reducible refine ixJ (0) rfl ?_ ?_;focus omega)|refine stp ?_|with_reducible apply Z01<;>intro h)
            conv=>whnf
            refine⟨r+1,hrt,by show R-(r+1)<R-r;omega,?_⟩
            (try dsimp only)
            rw[hgs]
            refine Y0e [] [0,0,4] rfl rfl (SlotsGe.w ?_) (HpD.fix ⟨Z13 rfl (.inr ⟨rfl,rfl,rfl,Y0c (Y03 (rest:=[]) rfl rfl)⟩),Z13 rfl (.inl ⟨rfl,rfl,rfl⟩),Z13 rfl (.inr ⟨rfl,rfl,rfl,Y0c (Y03 (rest:=[]) ?_ ?_)⟩),trivial⟩ ?_ (λ_ _=>rfl))
            · iterate 4 refine stw ?_
              refine Y04 (Y06 rfl rfl ?_ (Y00 _) ?_ rfl) ?_
              ·simp
              ·simp
              exact wks
            ·rfl
            ·rfl
            ·simp[Z0G,Z0e,inb,nis]
           |false =>
            rw[hbt]at hbit
            rw[hbt,if_neg Y0B,Y08]at hgs
            generalize live (0)=lk at *
            repeat' ((conv=>whnf);first|refine exI hxL ?_|(refine Y04 hw1 ?_)|(refine Y04 (show (2:Int)≠0 by decide) ?_)|(refine apS ?_)|(with_reducible refine ixJ (0) rfl ?_ ?_;focus omega)|refine stp ?_|with_reducible apply Z01<;>intro h)
            conv=>whnf
            refine⟨r+1,hrt,by show R-(r+1)<R-r;omega,?_⟩
            (try dsimp only)
            rw[hgs]
            refine Y0e [] [0,0,0] rfl rfl (SlotsGe.w ?_) (HpD.fix ⟨Z13 rfl (.inr ⟨rfl,rfl,rfl,Y0c (Y03 (rest:=[]) rfl rfl)⟩),Z13 rfl (.inl ⟨rfl,rfl,rfl⟩),Z13 rfl (.inl ⟨rfl,rfl,rfl⟩),trivial⟩ (by simp[Z0G,Z0e,inb,nis]) (λ_ _=>rfl))
            exact wks
         · have e3:decide ((r:Int)<regs)=false:=by rw[hR];simpa using hrt
           have hrR:r=R:=by omega
           rw[<- hgR hrR,hgb]at hrs
           repeat' ((conv=>whnf);first|refine exI hxL ?_|(refine Y04 hw1 ?_)|(refine Y04 (show (2:Int)≠0 by decide) ?_)|(refine apS ?_)|(with_reducible refine ixJ (0) rfl ?_ ?_;focus omega)|refine stp ?_|with_reducible apply Z01<;>intro h)
           conv=>whnf
           refine⟨(0)+1,hlt,by show l.length-((0)+1)<l.length-(0);omega,?_⟩
           (try dsimp only)
           rw[hrs,Z2y (by simp)]
           rw[Zed,Y0g]
           refine Y0e [] [0,4] rfl rfl (SlotsGe.w ?_) (HpD.fix ⟨Z13 rfl (.inr ⟨rfl,rfl,rfl,Y0c (Y03 (rest:=[]) rfl rfl)⟩),Z13 rfl (.inr ⟨rfl,rfl,rfl,BodyGeZ.snoc (cs:=[]) rfl (WkZ.wk (Y07 rfl))⟩),trivial⟩ (by simp[Z0G,Z0e]) (λf hf=>by simp[Z0G,Z0e]at hf;rcases hf with rfl|rfl<;>rfl))
           exact wks
        |cons g0 gr =>
         rw[hgb]at hgs hrg
         have hLn:=Z0w (g0::gr)
         have hLr:=Z0c (g0::gr)
         have hLt:=Z1U (g0::gr)
         simp only[Y0a]at hrg hLn
         rw[Z2y (show nis (g0::gr)≠[] by simp[nis])]
         simp only[grn,Y0a]
         generalize hLL:nis (g0::gr)=L0 at *
         by_cases hrt:r<R
         · have e3:decide ((r:Int)<regs)=true:=by rw[hR];simpa using hrt
           have hw1:=(ZaX r (by omega)).2
           cases hbt:(live (0)).testBit r with
           |true =>
            rw[hbt]at hbit
            rw[hbt,if_pos rfl]at hgs
            generalize live (0)=lk at *
            repeat' ((conv=>whnf);first|refine exI hxL ?_|(refine Y04 hw1 ?_)|(refine Y04 (show (2:Int)≠0 by decide) ?_)|(refine apS ?_)|(with_reducible refine ixJ (0) rfl ?_ ?_;focus omega)|refine stp ?_|with_reducible apply Z01<;>intro h)
            conv=>whnf
            refine⟨r+1,hrt,by show R-(r+1)<R-r;omega,?_⟩
            (try dsimp only)
            rw[hgs]
            refine Y0e [] [0,0,4] rfl rfl (SlotsGe.w ?_) (HpD.fix ⟨Z13 rfl (.inr ⟨rfl,rfl,rfl,Y0c (Y03 (rest:=[]) rfl rfl)⟩),Z13 rfl (.inl ⟨rfl,rfl,rfl⟩),Z13 rfl (.inr ⟨rfl,rfl,rfl,Y0c (Y03 (rest:=[]) ?_ ?_)⟩),trivial⟩ ?_ (λ_ _=>rfl))
            · iterate 4 refine stw ?_
              refine Y04 (Y06 rfl rfl ?_ (Y00 _) ?_ rfl) ?_
              ·simp
              ·simp
              exact wks
            ·subst hLL;rw[Y08];simp[nis]
            ·exact Z0c (g0::(gr++[r]))
            ·simp[Z0G,Z0e,inb,nis]
           |false =>
            rw[hbt]at hbit
            rw[hbt,if_neg Y0B,Y08]at hgs
            generalize live (0)=lk at *
            repeat' ((conv=>whnf);first|refine exI hxL ?_|(refine Y04 hw1 ?_)|(refine Y04 (show (2:Int)≠0 by decide) ?_)|(refine apS ?_)|(with_reducible refine ixJ (0) rfl ?_ ?_;focus omega)|refine stp ?_|with_reducible apply Z01<;>intro h)
            conv=>whnf
            refine⟨r+1,hrt,by show R-(r+1)<R-r;omega,?_⟩
            (try dsimp only)
            rw[hgs]
            refine Y0e [] [0,0,2] rfl rfl (SlotsGe.w ?_) (HpD.fix ⟨Z13 rfl (.inr ⟨rfl,rfl,rfl,Y0c (Y03 (rest:=[]) rfl rfl)⟩),Z13 rfl (.inl ⟨rfl,rfl,rfl⟩),Z13 rfl (.inr ⟨rfl,rfl,rfl,Y0c (Y03 (rest:=[]) (by subst hLL;rw[Y08];rfl) (by subst hLL;exact hLr))⟩),trivial⟩ (by simp[Z0G,Z0e,inb,nis]) (λ_ _=>rfl))
            exact wks
         · have e3:decide ((r:Int)<regs)=false:=by rw[hR];simpa using hrt
           have hrR:r=R:=by omega
           rw[<- hgR hrR,hgb]at hrs
           repeat' ((conv=>whnf);first|refine exI hxL ?_|(refine Y04 hw1 ?_)|(refine Y04 (show (2:Int)≠0 by decide) ?_)|(refine apS ?_)|(with_reducible refine ixJ (0) rfl ?_ ?_;focus omega)|refine stp ?_|with_reducible apply Z01<;>intro h)
           conv=>whnf
           refine⟨(0)+1,hlt,by show l.length-((0)+1)<l.length-(0);omega,?_⟩
           (try dsimp only)
           rw[hrs,Z2y (by simp)]
           rw[Zed,Y0g]
           refine Y0e [2] [0,4] rfl rfl (SlotsGe.w ?_) (HpD.fix ⟨Z13 rfl (.inr ⟨rfl,rfl,rfl,Y0c (Y03 (rest:=[]) rfl rfl)⟩),Z13 rfl (.inr ⟨rfl,rfl,rfl,BodyGeZ.snoc (cs:=[]) rfl (by subst hLL;exact WkZ.fz (Z1e (Z3e (o:=⟨true,2,0,.cells (nis (g0::gr)) 3⟩) rfl rfl) (by rw[Z0w];simp) hLt))⟩),trivial⟩ (by simp[Z0G,Z0e]) (λf hf=>by simp[Z0G,Z0e]at hf;rcases hf with rfl|rfl<;>rfl))
           exact wks
      · rw[Z2y (Zl4 _ _)]
        have hC1:=ZjB (λi=>gB live i R) (k+1)
        have hC1l:=ZcK (λi=>gB live i R) (k+1)
        have hrs:=Zee (λi=>gB live i R) (k+1)
        generalize hCC:rwC (λi=>gB live i R) (k+1)=C1 at *
        simp only[grn]
        show Z0F _ _
        generalize hI2:(((k+1:Nat):Nat):Int)=iv at *
        repeat' ((conv=>whnf);first|refine stp ?_|with_reducible apply Z01<;>intro h)
        conv=>whnf
        subst hI2
        refine⟨Nat,(λr=>r<=R),(λr=>[(1,.ptr 0 0),(3,.rs l.length 1 cL),(13,.slice 1 0 (k+1) (k+1) 1),(14,.int .i64 ((k+1:Nat):Int)),(15,grn 2 1 (gB live (k+1) r).length),(16,.int .i64 (r:Nat))]),(λr=>[⟨true,0,0,.cells [.int .i64 regs,.rs l.length 6 (inC l)] 24⟩,⟨true,1,0,.cells C1 31⟩,inb 2 3 (nis (gB live (k+1) r))]),(λr=>R-r),⟨0,Y09 _,?_⟩,?_⟩
        · refine Y0e [] [0,1,0] rfl rfl (SlotsGe.w ?_) (HpD.fix ⟨Z13 rfl (.inr ⟨rfl,rfl,rfl,Y0c (Y03 (rest:=[]) rfl rfl)⟩),Z13 rfl (.inr ⟨rfl,rfl,rfl,Y0c (Y03 (rest:=[]) (by rw[Y08]) hC1)⟩),Z13 rfl (.inl ⟨rfl,rfl,rfl⟩),trivial⟩ (by simp[Z0G,Z0e,inb,gB,nis]) (λ_ _=>rfl))
          exact wks
        intro r hr
        dsimp only at hr⊢
        have hrg:=Zlj live (k+1) r
        have hgs:=ZhZ live (k+1) r
        have hbit:=ZgM (x:=live (k+1)) (r:=r) (by omega)
        have hgR:r=R->gB live (k+1) r=gB live (k+1) R:=λe=>by rw[e]
        cases hgb:gB live (k+1) r with
        |nil =>
         rw[hgb]at hgs hrg
         rw[show inb 2 3 (nis [])=⟨false,2,0,.cells [] 3⟩ from rfl]
         simp only[grn,Y0h]
         by_cases hrt:r<R
         · have e3:decide ((r:Int)<regs)=true:=by rw[hR];simpa using hrt
           have hw1:=(ZaX r (by omega)).2
           cases hbt:(live (k+1)).testBit r with
           |true =>
            rw[hbt]at hbit
            rw[hbt,if_pos rfl]at hgs
            generalize live (k+1)=lk at *
            repeat' ((conv=>whnf);first|refine exI hxL ?_|(refine Y04 hw1 ?_)|(refine Y04 (show (2:Int)≠0 by decide) ?_)|(refine apS ?_)|(with_reducible refine ixJ (k+1) rfl ?_ ?_;focus omega)|refine stp ?_|with_reducible apply Z01<;>intro h)
            conv=>whnf
            refine⟨r+1,hrt,by show R-(r+1)<R-r;omega,?_⟩
            (try dsimp only)
            rw[hgs]
            refine Y0e [] [0,1,4] rfl rfl (SlotsGe.w ?_) (HpD.fix ⟨Z13 rfl (.inr ⟨rfl,rfl,rfl,Y0c (Y03 (rest:=[]) rfl rfl)⟩),Z13 rfl (.inr ⟨rfl,rfl,rfl,Y0c (Y03 (rest:=[]) (by rw[Y08]) hC1)⟩),Z13 rfl (.inr ⟨rfl,rfl,rfl,Y0c (Y03 (rest:=[]) ?_ ?_)⟩),trivial⟩ ?_ (λ_ _=>rfl))
            · iterate 4 refine stw ?_
              refine Y04 (Y06 rfl rfl ?_ (Y00 _) ?_ rfl) ?_
              ·simp
              ·simp
              exact wks
            ·rfl
            ·rfl
            ·simp[Z0G,Z0e,inb,nis]
           |false =>
            rw[hbt]at hbit
            rw[hbt,if_neg Y0B,Y08]at hgs
            generalize live (k+1)=lk at *
            repeat' ((conv=>whnf);first|refine exI hxL ?_|(refine Y04 hw1 ?_)|(refine Y04 (show (2:Int)≠0 by decide) ?_)|(refine apS ?_)|(with_reducible refine ixJ (k+1) rfl ?_ ?_;focus omega)|refine stp ?_|with_reducible apply Z01<;>intro h)
            conv=>whnf
            refine⟨r+1,hrt,by show R-(r+1)<R-r;omega,?_⟩
            (try dsimp only)
            rw[hgs]
            refine Y0e [] [0,1,0] rfl rfl (SlotsGe.w ?_) (HpD.fix ⟨Z13 rfl (.inr ⟨rfl,rfl,rfl,Y0c (Y03 (rest:=[]) rfl rfl)⟩),Z13 rfl (.inr ⟨rfl,rfl,rfl,Y0c (Y03 (rest:=[]) (by rw[Y08]) hC1)⟩),Z13 rfl (.inl ⟨rfl,rfl,rfl⟩),trivial⟩ (by simp[Z0G,Z0e,inb,nis]) (λ_ _=>rfl))
            exact wks
         · have e3:decide ((r:Int)<regs)=false:=by rw[hR];simpa using hrt
           have hrR:r=R:=by omega
           rw[<- hgR hrR,hgb]at hrs
           repeat' ((conv=>whnf);first|refine exI hxL ?_|(refine Y04 hw1 ?_)|(refine Y04 (show (2:Int)≠0 by decide) ?_)|(refine apS ?_)|(with_reducible refine ixJ (k+1) rfl ?_ ?_;focus omega)|refine stp ?_|with_reducible apply Z01<;>intro h)
           conv=>whnf
           refine⟨(k+1)+1,hlt,by show l.length-((k+1)+1)<l.length-(k+1);omega,?_⟩
           (try dsimp only)
           rw[hrs,Z2y (by simp)]
           skip
           refine Y0e [] [0,4] rfl rfl (SlotsGe.w ?_) (HpD.fix ⟨Z13 rfl (.inr ⟨rfl,rfl,rfl,Y0c (Y03 (rest:=[]) rfl rfl)⟩),Z13 rfl (.inr ⟨rfl,rfl,rfl,BodyGeZ.snoc (cs:=C1) hC1 (WkZ.wk (Y07 rfl))⟩),trivial⟩ (by simp[Z0G,Z0e]) (λf hf=>by simp[Z0G,Z0e]at hf;rcases hf with rfl|rfl<;>rfl))
           exact wks
        |cons g0 gr =>
         rw[hgb]at hgs hrg
         have hLn:=Z0w (g0::gr)
         have hLr:=Z0c (g0::gr)
         have hLt:=Z1U (g0::gr)
         simp only[Y0a]at hrg hLn
         rw[Z2y (show nis (g0::gr)≠[] by simp[nis])]
         simp only[grn,Y0a]
         generalize hLL:nis (g0::gr)=L0 at *
         by_cases hrt:r<R
         · have e3:decide ((r:Int)<regs)=true:=by rw[hR];simpa using hrt
           have hw1:=(ZaX r (by omega)).2
           cases hbt:(live (k+1)).testBit r with
           |true =>
            rw[hbt]at hbit
            rw[hbt,if_pos rfl]at hgs
            generalize live (k+1)=lk at *
            repeat' ((conv=>whnf);first|refine exI hxL ?_|(refine Y04 hw1 ?_)|(refine Y04 (show (2:Int)≠0 by decide) ?_)|(refine apS ?_)|(with_reducible refine ixJ (k+1) rfl ?_ ?_;focus omega)|refine stp ?_|with_reducible apply Z01<;>intro h)
            conv=>whnf
            refine⟨r+1,hrt,by show R-(r+1)<R-r;omega,?_⟩
            (try dsimp only)
            rw[hgs]
            refine Y0e [] [0,1,4] rfl rfl (SlotsGe.w ?_) (HpD.fix ⟨Z13 rfl (.inr ⟨rfl,rfl,rfl,Y0c (Y03 (rest:=[]) rfl rfl)⟩),Z13 rfl (.inr ⟨rfl,rfl,rfl,Y0c (Y03 (rest:=[]) (by rw[Y08]) hC1)⟩),Z13 rfl (.inr ⟨rfl,rfl,rfl,Y0c (Y03 (rest:=[]) ?_ ?_)⟩),trivial⟩ ?_ (λ_ _=>rfl))
            · iterate 4 refine stw ?_
              refine Y04 (Y06 rfl rfl ?_ (Y00 _) ?_ rfl) ?_
              ·simp
              ·simp
              exact wks
            ·subst hLL;rw[Y08];simp[nis]
            ·exact Z0c (g0::(gr++[r]))
            ·simp[Z0G,Z0e,inb,nis]
           |false =>
            rw[hbt]at hbit
            rw[hbt,if_neg Y0B,Y08]at hgs
            generalize live (k+1)=lk at *
            repeat' ((conv=>whnf);first|refine exI hxL ?_|(refine Y04 hw1 ?_)|(refine Y04 (show (2:Int)≠0 by decide) ?_)|(refine apS ?_)|(with_reducible refine ixJ (k+1) rfl ?_ ?_;focus omega)|refine stp ?_|with_reducible apply Z01<;>intro h)
            conv=>whnf
            refine⟨r+1,hrt,by show R-(r+1)<R-r;omega,?_⟩
            (try dsimp only)
            rw[hgs]
            refine Y0e [] [0,1,2] rfl rfl (SlotsGe.w ?_) (HpD.fix ⟨Z13 rfl (.inr ⟨rfl,rfl,rfl,Y0c (Y03 (rest:=[]) rfl rfl)⟩),Z13 rfl (.inr ⟨rfl,rfl,rfl,Y0c (Y03 (rest:=[]) (by rw[Y08]) hC1)⟩),Z13 rfl (.inr ⟨rfl,rfl,rfl,Y0c (Y03 (rest:=[]) (by subst hLL;rw[Y08];rfl) (by subst hLL;exact hLr))⟩),trivial⟩ (by simp[Z0G,Z0e,inb,nis]) (λ_ _=>rfl))
            exact wks
         · have e3:decide ((r:Int)<regs)=false:=by rw[hR];simpa using hrt
           have hrR:r=R:=by omega
           rw[<- hgR hrR,hgb]at hrs
           repeat' ((conv=>whnf);first|refine exI hxL ?_|(refine Y04 hw1 ?_)|(refine Y04 (show (2:Int)≠0 by decide) ?_)|(refine apS ?_)|(with_reducible refine ixJ (k+1) rfl ?_ ?_;focus omega)|refine stp ?_|with_reducible apply Z01<;>intro h)
           conv=>whnf
           refine⟨(k+1)+1,hlt,by show l.length-((k+1)+1)<l.length-(k+1);omega,?_⟩
           (try dsimp only)
           rw[hrs,Z2y (by simp)]
           skip
           refine Y0e [2] [0,4] rfl rfl (SlotsGe.w ?_) (HpD.fix ⟨Z13 rfl (.inr ⟨rfl,rfl,rfl,Y0c (Y03 (rest:=[]) rfl rfl)⟩),Z13 rfl (.inr ⟨rfl,rfl,rfl,BodyGeZ.snoc (cs:=C1) hC1 (by subst hLL;exact WkZ.fz (Z1e (Z3e (o:=⟨true,2,0,.cells (nis (g0::gr)) 3⟩) rfl rfl) (by rw[Z0w];simp) hLt))⟩),trivial⟩ (by simp[Z0G,Z0e]) (λf hf=>by simp[Z0G,Z0e]at hf;rcases hf with rfl|rfl<;>rfl))
           exact wks
    · have e1:decide ((k:Int)<(l.length:Int))=false:=by simpa using hlt
      have hk2:k=l.length:=by omega
      subst hk2
      have hCl:=ZcK (λi=>gB live i R) l.length
      have hCf:∀H:Z00,Z0T (frz H 29) (rwC (λi=>gB live i R) l.length)=some (rwC (λi=>gB live i R) l.length):=λH=>Zby _ _
      have hres:rwC (λi=>gB live i R) l.length=arr (λv=>frn 1 (Go.Live.liveL (usU l) (stU l) (Z0v l) v).length (nis (Go.Live.liveL (usU l) (stU l) (Z0v l) v))) l.length:=by
       unfold rwC arr
       refine List.map_congr_left λv hv=>?_
       rw[Y0i]at hv
       show frn 1 (gB live v R).length (nis (gB live v R))=_
       rw[hall v hv]
      rw[<- hres]
      obtain⟨n,hn⟩:∃n,l.length=n+1:=⟨l.length-1,by omega⟩
      generalize Z2f live l.length=cL
      rw[Z2y (by rw[hn];exact Zl4 _ _)]
      generalize rwC (λi=>gB live i R) l.length=C1 at *
      rw[hn]at *
      simp only[grn]
      repeat' ((conv=>whnf);first|refine stp ?_|with_reducible apply Z01<;>intro h)
      conv=>whnf
      exact⟨_,ZfT (b:=1) (n:=28) rfl (by omega) (hCf _),rfl⟩
end Go.Proofs.YthbimonbnaodkaaGreatDoor.lex
end

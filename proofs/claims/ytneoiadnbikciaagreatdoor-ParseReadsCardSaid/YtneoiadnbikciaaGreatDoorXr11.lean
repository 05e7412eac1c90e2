/-
  Texts of this proof, one behind the other (part 11).
-/
import Derived.Test.YtneoiadnbikciaaGreatDoorXr10
import Derived.Test.YtneoiadnbikciaaGreatDoorXr8
set_option linter.unusedVariables false
set_option linter.unusedSimpArgs false
set_option linter.unusedSectionVars false
set_option maxRecDepth 100000
set_option maxHeartbeats 4000000
open Go.Proofs.Tryz renaming prog → Y00
open List renaming length_nil → Y01,length_cons → Y07,append_nil → Y08,nil_append → Y09,cons_append → Y0a
open Nat renaming beq → Y02,lt_succ_self → Y04,zero_le → Y06
open Go.Abs.FgLK renaming mk → Y03
open Go.Abs.BodyGe renaming cellsL → Y05
namespace Go.Proofs.YtneoiadnbikciaaGreatDoor.lex
open Go.Abs Go.RowKit
section
variable {gl:Z0k}
def ZoK(T:List Tq):FamM Y00 gl:=Z3g T 49 (by kernel_rfl) (I:=Int) (λ_ s=>PsOK T s) (λe=>[.ptr 0 0,.int .i64 e]) (λe s=>.agg [.int .i64 (ZaH T s e).err,.int .i64 (ZaH T s e).at_]) (λe s=>ZaH T s e) (λ_=>rfl) (λi j h=>by simpa using h) (λe s h=>ZeT h e)
def Zso(f:Nat):Bool:=Y02 f 43 || (Y02 f 11 || (Y02 f 45 || (Y02 f 46 || (Y02 f 47 || (Y02 f 48 || Y02 f 49)))))
theorem ZcN {T : List Tq} {σ : Ps} (h0 : PsOK T σ) {txt : List UInt8} {D : List Dc} {S : List (List St)} {E F : Ps} (hA : Z9W Y00 gl 43 [.str txt] (.ptr 0 0) (psH T σ))
  (hP:Z1k T (T.length+1) [] [] σ = ((D,S),E)) {c:Int} (hC:ValOK Y00 gl 11 [(Pr.mk D S).av] (.int .i64 c)) (hEF:ZaH T E c=F) {D':List Dc} {S':List (List St)} (hD:(F.err=0/\D'=D/\S'=S)\/(F.err≠0/\D'=[]/\S'=[])) :
  ValOK Y00 gl 21 [.str txt] (.tuple [(Pr.mk D' S').av,.agg [.int .i64 F.err,.int .i64 F.at_]]):=by
 obtain⟨O1,hO1,⟨p1,p2,p3,p4,p5,-⟩,-⟩:=Z25 (P:=Y00) (gl:=gl) [Z77 T,Z3g T 46 (by kernel_rfl) (I:=Bool) (λ_ s=>PsOK T s) (λb=>[.ptr 0 0,.bool b]) (λb s=>dcA (Z0E T b s).1) (λb s=>(Z0E T b s).2) (λ_=>rfl) (λi j h=>by simpa using h) (λb s h=>Zmm h b),
  Z3g T 47 (by kernel_rfl) (I:=Unit) (λ_ s=>PsOK T s) (λ_=>[.ptr 0 0]) (λ_ s=>stA (Z6a T s).1) (λ_ s=>(Z6a T s).2) (λ_=>rfl) (λ_ _ _=>rfl) (λ_ s h=>(ZbX T s h (Y06 _)).2),ZoC T,ZoK T] [] rfl
 have hCN:ValOK Y00 gl 11 [.agg [dcN D,thN S]] (.int .i64 c):=hC.weak λsn vs h=>by
  simp only[LR]at h⊢
  obtain⟨d,ds,e,h1,r⟩:=h
  exact⟨d,ds,e,ZpT h1,r⟩
 obtain⟨O2,hO2,q9',ho2⟩:=Zg7 hO1 (f0:=11) rfl hCN (by kernel_rfl)
 obtain⟨O,hO,qb,ho3⟩:=Z9O hA hO2
 have ho:∀g,(g≠11/\g≠43)->∀args H,Z06 Y00 O H g args=Z06 Y00 O1 H g args:=λg hg args H=>(ho3 g hg.2 args H).trans (ho2 g hg.1 args H)
 have q9:=λH az hz=>(ho3 11 (by decide) az H).trans (q9' H az hz)
 have tk:∀w s X,kwB w=true->isF T s w=true->PsOK T s->Z08 [0] X=true->Z06 Y00 O (psH T s++X) 45 [.ptr 0 0,.str w]=some (.bool true,psH T (Z02 s)++X):=λw s X hw hi h hX=>by
  have this:Z06 Y00 O1 (psH T s++X) 45 [.ptr 0 0,.str w]=some (.bool (Z0L T s w),psH T (Z0l T s w)++X):=p1 (w,s,X) ⟨h,hX⟩
  rw[(Z1u hw).1,(Z1u hw).2,hi,if_pos rfl]at this
  rw[ho _ (by decide)];exact this
 have tn:∀w s X,kwB w=true->isF T s w=false->PsOK T s->Z08 [0] X=true->Z06 Y00 O (psH T s++X) 45 [.ptr 0 0,.str w]=some (.bool false,psH T s++X):=λw s X hw hi h hX=>by
  have this:Z06 Y00 O1 (psH T s++X) 45 [.ptr 0 0,.str w]=some (.bool (Z0L T s w),psH T (Z0l T s w)++X):=p1 (w,s,X) ⟨h,hX⟩
  rw[(Z1u hw).1,(Z1u hw).2,hi,if_neg (by decide)]at this
  rw[ho _ (by decide)];exact this
 have qd:∀b s X,PsOK T s->Z08 [0] X=true->Z06 Y00 O (psH T s++X) 46 [.ptr 0 0,.bool b]=some (dcA (Z0E T b s).1,psH T (Z0E T b s).2++X):=λb s X h hX=>by rw[ho _ (by decide)];exact p2 (b,s,X) ⟨h,hX⟩
 have qk:∀s X,PsOK T s->Z08 [0] X=true->Z06 Y00 O (psH T s++X) 47 [.ptr 0 0]=some (stA (Z6a T s).1,psH T (Z6a T s).2++X):=λs X h hX=>by rw[ho _ (by decide)];exact p3 ((),s,X) ⟨h,hX⟩
 have qf:∀e a s X,Z08 [0] X=true->Z06 Y00 O (psH T s++X) 48 [.ptr 0 0,.int .i64 e,.int .i64 a]=some (.tuple [],psH T (Z0p s e a)++X):=λe a s X hX=>by rw[ho _ (by decide)];exact p4 ((e,a),s,X) ⟨trivial,hX⟩
 have qe:∀X,Z08 [0] X=true->PsOK T E->Z06 Y00 O (psH T E++X) 49 [.ptr 0 0,.int .i64 c]=some (.agg [.int .i64 F.err,.int .i64 F.at_],psH T F++X):=λX hX hok=>by
  have this:Z06 Y00 O1 (psH T E++X) 49 [.ptr 0 0,.int .i64 c]=some (.agg [.int .i64 (ZaH T E c).err,.int .i64 (ZaH T E c).at_],psH T (ZaH T E c)++X):=p5 (c,E,X) ⟨hok,hX⟩
  rw[hEF]at this
  rw[ho _ (by decide)];exact this
 have qa:=qb [⟨true,0,0,.cells [.nslice,.nslice] 26⟩,⟨true,1,0,.cells [.int .i64 0,.int .i64 0] 29⟩]
 clear p1 p2 p3 p4 p5 ho ho2 ho3 q9' qb hO1 hO2 hCN hC hA
 have hΦ : ∀r':AV,(∀sn v,VR sn noI r' v->VR sn noI (.tuple [(Pr.mk D' S').av,.agg [.int .i64 F.err,.int .i64 F.at_]]) v)->∀sn v,VR sn noI r' v->VR sn noI (.tuple [(Pr.mk D' S').av,.agg [.int .i64 F.err,.int .i64 F.at_]]) v:=λr' h=>h
 have hT1:Zcj Y00 23 23=some (66,3,32):=by kernel_rfl
 have hT2:Zcj Y00 24 24=some (53,1,24):=by kernel_rfl
 refine fn_valX follows Z05 (Z09 follows Z05 hO 3) hΦ Tryz.func21 rfl (Z0f (isC:=Zso) 3) ?_
 have hfew0:=h0.few
 repeat' ((conv=>whnf);first|refine exI qa ?_|refine stp ?_|with_reducible apply Z01<;>intro h)
 conv=>whnf
 refine⟨Bs6,(λy=>PsOK T y.s/\(y.s.err=0->T.length-y.s.i<y.k)/\y.ds.length+1000001*y.k<=1000002000001/\y.ts.length+y.k<=1000001/\Z1k T y.k y.ds y.ts y.s=((D,S),E)),(λy=>[(0,.str txt),(2,.ptr 1 0),(3,.ptr 2 0),(4,.ptr 0 0),(5,.ptr 3 0)]),
  (λy=>psH T y.s++[⟨true,1,0,.cells [.nslice,.nslice] 26⟩,⟨true,2,0,.cells [.int .i64 0,.int .i64 0] 29⟩,⟨true,3,0,.cells [Za0 y.ds,thS y.ts (Z8V y.ds)] 26⟩]++(ZpA y.ds++Zpm y.ts (Z8V y.ds))),(λy=>y.k),⟨⟨[],[],σ,T.length+1⟩,⟨h0,λ_=>by show T.length-σ.i<T.length+1;omega,by show 0+1000001*(T.length+1)<=1000002000001;omega,by show 0+(T.length+1)<=1000001;omega,hP⟩,?_⟩,?_⟩
 · refine Y03 [2,0,1,3] rfl rfl ?_ ⟨hbp,hbp,hbp,hbp,trivial⟩ rfl
   exact wks
 rintro⟨ds,ts,s,k⟩ ⟨hs,hk,hd,ht,hF⟩
 dsimp only at hs hk hd ht hF
 (try dsimp only)
 have hx:=tq4 T s.i hs.lt
 rw[<- Z0t hs.lt]at hx
 have hlt:=hs.lt
 by_cases hc:s.err=0/\(Z0r T s).kind≠5
 · have hkk:=hk hc.1
   obtain⟨k,rfl⟩:∃k',k=k'+1:=⟨k-1,by omega⟩
   unfold Z1k at hF
   rw[if_pos hc]at hF
   obtain⟨c1,c2⟩:=hc
   have e5:((Z0r T s).kind != 5)=true:=by simpa using c2
   clear qe q9 qa
   cases h1:isF T s Z7p with
   |true =>
    rw[h1,if_pos rfl]at hF
    have f0:=λX=>tk Z7p s X rfl h1 hs
    have go1:=Z0b hs h1
    have go2:=Z6Q false go1.ok
    have fd:=λX=>qd false _ X go1.ok
    obtain⟨d,dl,hd1,hd2⟩:=Z42 T false (Z02 s)
    have hfew:=hs.few
    have hon:s.i+1<=(Z0E T false (Z02 s)).2.i:=go2.on
    have ok2:=go2.ok
    clear tk tn qd qk qf go1 go2
    generalize Z02 s=u at *
    generalize Z0E T false u=R at *
    obtain⟨RL,⟨i2,er2,at2,op2⟩⟩:=R
    simp only at hd1
    subst hd1
    have hlt2:er2=0->T.length-i2<k:=λ_=>by simp only at hon;omega
    generalize Z0r T s=t at *
    obtain⟨tk_,tx,tn_,tp⟩:=t
    obtain⟨i,err,at_,op⟩:=s
    obtain⟨ui,ue,ua,uo⟩:=u
    simp only at c1
    subst c1
    simp only[psH,Tq.cells,dcA,Y07]at *
    rcases ds with _|⟨a,ds⟩<;>rcases ts with _|⟨b,ts⟩
    all_goals simp only[Za0,ZpA,thS,Zpm,Z8V,Y08,Y09,Y0a,Y07,Y01]at *
    all_goals (try have hcl:=Z1T (a::ds))
    all_goals (try have hcl2:((b::ts).map stA).length=(ts.length+1)*1:=by simp)
    all_goals have ho1:=Zk0 (d::dl)
    all_goals (try have hsn:dcC (a::ds)++dcC (d::dl)=dcC (a::(ds++d::dl)):=(ZbV (a::ds) (d::dl)).symm)
    all_goals (try have hl1:(ds++d::dl).length=ds.length+(dl.length+1):=by simp)
    all_goals repeat' ((conv=>whnf);first|refine exI (f0 _ rfl) ?_|refine exI (fd _ rfl) ?_|refine exI hx ?_|(with_reducible refine ixJ _ rfl ?_ ?_;focus omega)|(refine apS ?_)|refine stp ?_|with_reducible apply Z01<;>intro h)
    all_goals (conv=>whnf)
    · refine⟨⟨(d::dl),[],⟨i2,er2,at2,op2⟩,k⟩,⟨ok2,λhe=>by have:=hlt2 he;simp only at this⊢;omega,by simp at hd⊢;omega,by simp at ht⊢;omega,by simpa using hF⟩,Y04 _,?_⟩
      refine Y03 [0,1,2,3,5] rfl rfl ?_ ⟨hbp,hbp,hbp,⟨rfl,rfl,rfl,rfl,Y05 ?_⟩,⟨rfl,rfl,rfl,rfl,Z07 rfl (Z0h _)⟩,trivial⟩ rfl
      ·exact wks
      · dsimp only[Za0,thS,Z8V,Y01]
        exact wks
    · refine⟨⟨(d::dl),(b::ts),⟨i2,er2,at2,op2⟩,k⟩,⟨ok2,λhe=>by have:=hlt2 he;simp only at this⊢;omega,by simp at hd⊢;omega,by simp at ht⊢;omega,by simpa using hF⟩,Y04 _,?_⟩
      refine Y03 [0,1,2,3,6,4] rfl rfl ?_ ⟨hbp,hbp,hbp,⟨rfl,rfl,rfl,rfl,Y05 ?_⟩,⟨rfl,rfl,rfl,rfl,Z07 rfl (Z0h _)⟩,⟨rfl,rfl,rfl,rfl,Z07 rfl (Z1Z _)⟩,trivial⟩ rfl
      ·exact wks
      · dsimp only[Za0,thS,Z8V,Y01]
        exact wks
    · refine⟨⟨(a::(ds++d::dl)),[],⟨i2,er2,at2,op2⟩,k⟩,⟨ok2,λhe=>by have:=hlt2 he;simp only at this⊢;omega,by simp at hd⊢;omega,by simp at ht⊢;omega,by simpa using hF⟩,Y04 _,?_⟩
      refine Y03 [0,1,2,3,6] rfl rfl ?_ ⟨hbp,hbp,hbp,⟨rfl,rfl,rfl,rfl,Y05 ?_⟩,⟨rfl,rfl,rfl,rfl,Z07 hsn (Z0h _)⟩,trivial⟩ rfl
      ·exact wks
      · dsimp only[Za0,thS,Z8V,Y01]
        exact wks
    · refine⟨⟨(a::(ds++d::dl)),(b::ts),⟨i2,er2,at2,op2⟩,k⟩,⟨ok2,λhe=>by have:=hlt2 he;simp only at this⊢;omega,by simp at hd⊢;omega,by simp at ht⊢;omega,by simpa using hF⟩,Y04 _,?_⟩
      refine Y03 [0,1,2,3,7,5] rfl rfl ?_ ⟨hbp,hbp,hbp,⟨rfl,rfl,rfl,rfl,Y05 ?_⟩,⟨rfl,rfl,rfl,rfl,Z07 hsn (Z0h _)⟩,⟨rfl,rfl,rfl,rfl,Z07 rfl (Z1Z _)⟩,trivial⟩ rfl
      ·exact wks
      · dsimp only[Za0,thS,Z8V,Y01]
        exact wks
   |false =>
    rw[h1,if_neg (by decide)]at hF
    have f0:=λX=>tn Z7p s X rfl h1 hs
    cases h2:isF T s Zaw with
    |true =>
     rw[h2,if_pos rfl]at hF
     have f1:=λX=>tk Zaw s X rfl h2 hs
     have go1:=Z0b hs h2
     have go2:=Z6Q true go1.ok
     have fd:=λX=>qd true _ X go1.ok
     obtain⟨d,dl,hd1,hd2⟩:=Z42 T true (Z02 s)
     have hfew:=hs.few
     have hon:s.i+1<=(Z0E T true (Z02 s)).2.i:=go2.on
     have ok2:=go2.ok
     clear tk tn qd qk qf go1 go2
     generalize Z02 s=u at *
     generalize Z0E T true u=R at *
     obtain⟨RL,⟨i2,er2,at2,op2⟩⟩:=R
     simp only at hd1
     subst hd1
     have hlt2:er2=0->T.length-i2<k:=λ_=>by simp only at hon;omega
     generalize Z0r T s=t at *
     obtain⟨tk_,tx,tn_,tp⟩:=t
     obtain⟨i,err,at_,op⟩:=s
     obtain⟨ui,ue,ua,uo⟩:=u
     simp only at c1
     subst c1
     simp only[psH,Tq.cells,dcA,Y07]at *
     rcases ds with _|⟨a,ds⟩<;>rcases ts with _|⟨b,ts⟩
     all_goals simp only[Za0,ZpA,thS,Zpm,Z8V,Y08,Y09,Y0a,Y07,Y01]at *
     all_goals (try have hcl:=Z1T (a::ds))
     all_goals (try have hcl2:((b::ts).map stA).length=(ts.length+1)*1:=by simp)
     all_goals have ho1:=Zk0 (d::dl)
     all_goals (try have hsn:dcC (a::ds)++dcC (d::dl)=dcC (a::(ds++d::dl)):=(ZbV (a::ds) (d::dl)).symm)
     all_goals (try have hl1:(ds++d::dl).length=ds.length+(dl.length+1):=by simp)
     all_goals repeat' ((conv=>whnf);first|refine exI (f0 _ rfl) ?_|refine exI (f1 _ rfl) ?_|refine exI (fd _ rfl) ?_|refine exI hx ?_|(with_reducible refine ixJ _ rfl ?_ ?_;focus omega)|(refine apS ?_)|refine stp ?_|with_reducible apply Z01<;>intro h)
     all_goals (conv=>whnf)
     · refine⟨⟨(d::dl),[],⟨i2,er2,at2,op2⟩,k⟩,⟨ok2,λhe=>by have:=hlt2 he;simp only at this⊢;omega,by simp at hd⊢;omega,by simp at ht⊢;omega,by simpa using hF⟩,Y04 _,?_⟩
       refine Y03 [0,1,2,3,5] rfl rfl ?_ ⟨hbp,hbp,hbp,⟨rfl,rfl,rfl,rfl,Y05 ?_⟩,⟨rfl,rfl,rfl,rfl,Z07 rfl (Z0h _)⟩,trivial⟩ rfl
       ·exact wks
       · dsimp only[Za0,thS,Z8V,Y01]
         exact wks
     · refine⟨⟨(d::dl),(b::ts),⟨i2,er2,at2,op2⟩,k⟩,⟨ok2,λhe=>by have:=hlt2 he;simp only at this⊢;omega,by simp at hd⊢;omega,by simp at ht⊢;omega,by simpa using hF⟩,Y04 _,?_⟩
       refine Y03 [0,1,2,3,6,4] rfl rfl ?_ ⟨hbp,hbp,hbp,⟨rfl,rfl,rfl,rfl,Y05 ?_⟩,⟨rfl,rfl,rfl,rfl,Z07 rfl (Z0h _)⟩,⟨rfl,rfl,rfl,rfl,Z07 rfl (Z1Z _)⟩,trivial⟩ rfl
       ·exact wks
       · dsimp only[Za0,thS,Z8V,Y01]
         exact wks
     · refine⟨⟨(a::(ds++d::dl)),[],⟨i2,er2,at2,op2⟩,k⟩,⟨ok2,λhe=>by have:=hlt2 he;simp only at this⊢;omega,by simp at hd⊢;omega,by simp at ht⊢;omega,by simpa using hF⟩,Y04 _,?_⟩
       refine Y03 [0,1,2,3,6] rfl rfl ?_ ⟨hbp,hbp,hbp,⟨rfl,rfl,rfl,rfl,Y05 ?_⟩,⟨rfl,rfl,rfl,rfl,Z07 hsn (Z0h _)⟩,trivial⟩ rfl
       ·exact wks
       · dsimp only[Za0,thS,Z8V,Y01]
         exact wks
     · refine⟨⟨(a::(ds++d::dl)),(b::ts),⟨i2,er2,at2,op2⟩,k⟩,⟨ok2,λhe=>by have:=hlt2 he;simp only at this⊢;omega,by simp at hd⊢;omega,by simp at ht⊢;omega,by simpa using hF⟩,Y04 _,?_⟩
       refine Y03 [0,1,2,3,7,5] rfl rfl ?_ ⟨hbp,hbp,hbp,⟨rfl,rfl,rfl,rfl,Y05 ?_⟩,⟨rfl,rfl,rfl,rfl,Z07 hsn (Z0h _)⟩,⟨rfl,rfl,rfl,rfl,Z07 rfl (Z1Z _)⟩,trivial⟩ rfl
       ·exact wks
       · dsimp only[Za0,thS,Z8V,Y01]
         exact wks
    |false =>
     rw[h2,if_neg (by decide)]at hF
     have f1:=λX=>tn Zaw s X rfl h2 hs
     cases h3:isF T s Z7o with
     |true =>
      rw[h3,if_pos rfl]at hF
      have f2:=λX=>tk Z7o s X rfl h3 hs
      have go1:=Z0b hs h3
      have go2:=(ZbX (gl:=gl) T (Z02 s) go1.ok (Y06 _)).1
      have fd:=λX=>qk _ X go1.ok
      have hfew:=hs.few
      have hon:s.i+1<=(Z6a T (Z02 s)).2.i:=go2.on
      have ok2:=go2.ok
      clear tk tn qd qk qf go1 go2
      generalize Z02 s=u at *
      generalize Z6a T u=R at *
      obtain⟨bl,⟨i2,er2,at2,op2⟩⟩:=R
      have hlt2:er2=0->T.length-i2<k:=λ_=>by simp only at hon;omega
      generalize Z0r T s=t at *
      obtain⟨tk_,tx,tn_,tp⟩:=t
      obtain⟨i,err,at_,op⟩:=s
      obtain⟨ui,ue,ua,uo⟩:=u
      simp only at c1
      subst c1
      simp only[psH,Tq.cells,stA]at *
      rcases ds with _|⟨a,ds⟩<;>rcases ts with _|⟨b,ts⟩
      all_goals simp only[Za0,ZpA,thS,Zpm,Z8V,Y08,Y09,Y0a,Y07,Y01]at *
      all_goals (try have hcl:=Z1T (a::ds))
      all_goals (try have hcl2:((b::ts).map stA).length=(ts.length+1)*1:=by simp)
      all_goals (try have hl1:(ts++[bl]).length=ts.length+1:=by simp)
      all_goals (try have hsn:(b::ts).map stA++[.rs bl.length 7 (stC bl)]=(b::(ts++[bl])).map stA:=by simp[stA])
      all_goals repeat' ((conv=>whnf);first|refine exI (f0 _ rfl) ?_|refine exI (f1 _ rfl) ?_|refine exI (f2 _ rfl) ?_|refine exI (fd _ rfl) ?_|refine exI hx ?_|(with_reducible refine ixJ _ rfl ?_ ?_;focus omega)|(refine apS ?_)|refine stp ?_|with_reducible apply Z01<;>intro h)
      all_goals (conv=>whnf)
      · refine⟨⟨[],[bl],⟨i2,er2,at2,op2⟩,k⟩,⟨ok2,λhe=>by have:=hlt2 he;simp only at this⊢;omega,by simp at hd⊢;omega,by simp at ht⊢;omega,by simpa using hF⟩,Y04 _,?_⟩
        refine Y03 [0,1,2,3,6] rfl rfl ?_ ⟨hbp,hbp,hbp,⟨rfl,rfl,rfl,rfl,Y05 ?_⟩,⟨rfl,rfl,rfl,rfl,Z07 rfl (Z1Z [bl])⟩,trivial⟩ rfl
        ·exact wks
        · dsimp only[Za0,thS,Z8V,Y01]
          exact wks
      · refine⟨⟨[],(b::(ts++[bl])),⟨i2,er2,at2,op2⟩,k⟩,⟨ok2,λhe=>by have:=hlt2 he;simp only at this⊢;omega,by simp at hd⊢;omega,by simp at ht⊢;omega,by simpa using hF⟩,Y04 _,?_⟩
        refine Y03 [0,1,2,3,7] rfl rfl ?_ ⟨hbp,hbp,hbp,⟨rfl,rfl,rfl,rfl,Y05 ?_⟩,⟨rfl,rfl,rfl,rfl,Z07 hsn (Z1Z _)⟩,trivial⟩ rfl
        ·exact wks
        · dsimp only[Za0,thS,Z8V,Y01]
          exact wks
      · refine⟨⟨(a::ds),[bl],⟨i2,er2,at2,op2⟩,k⟩,⟨ok2,λhe=>by have:=hlt2 he;simp only at this⊢;omega,by simp at hd⊢;omega,by simp at ht⊢;omega,by simpa using hF⟩,Y04 _,?_⟩
        refine Y03 [0,1,2,3,4,7] rfl rfl ?_ ⟨hbp,hbp,hbp,⟨rfl,rfl,rfl,rfl,Y05 ?_⟩,⟨rfl,rfl,rfl,rfl,Z07 rfl (Z0h _)⟩,⟨rfl,rfl,rfl,rfl,Z07 rfl (Z1Z [bl])⟩,trivial⟩ rfl
        ·exact wks
        · dsimp only[Za0,thS,Z8V,Y01]
          exact wks
      · refine⟨⟨(a::ds),(b::(ts++[bl])),⟨i2,er2,at2,op2⟩,k⟩,⟨ok2,λhe=>by have:=hlt2 he;simp only at this⊢;omega,by simp at hd⊢;omega,by simp at ht⊢;omega,by simpa using hF⟩,Y04 _,?_⟩
        refine Y03 [0,1,2,3,4,8] rfl rfl ?_ ⟨hbp,hbp,hbp,⟨rfl,rfl,rfl,rfl,Y05 ?_⟩,⟨rfl,rfl,rfl,rfl,Z07 rfl (Z0h _)⟩,⟨rfl,rfl,rfl,rfl,Z07 hsn (Z1Z _)⟩,trivial⟩ rfl
        ·exact wks
        · dsimp only[Za0,thS,Z8V,Y01]
          exact wks
     |false =>
      rw[h3,if_neg (by decide)]at hF
      have f2:=λX=>tn Z7o s X rfl h3 hs
      have fd:=λX=>qf 5 (Z0r T s).pos s X
      have ok2:=Z8I hs 5 (Z0r T s).pos
      have hlt2:(Z0p s 5 (Z0r T s).pos).err=0->T.length-(Z0p s 5 (Z0r T s).pos).i<k:=λh=>absurd h (Zdg _ _ (by decide))
      clear tk tn qd qk qf
      generalize Z0r T s=t at *
      obtain⟨tk_,tx,tn_,tp⟩:=t
      obtain⟨i,err,at_,op⟩:=s
      simp only at c1
      subst c1
      simp only[Z0p,if_true]at fd ok2 hlt2 hF
      simp only[psH,Tq.cells]at *
      rcases ds with _|⟨a,ds⟩<;>rcases ts with _|⟨b,ts⟩
      all_goals simp only[Za0,ZpA,thS,Zpm,Z8V,Y08,Y09,Y0a,Y07,Y01]at *
      all_goals (try have hcl:=Z1T (a::ds))
      all_goals (try have hcl2:((b::ts).map stA).length=(ts.length+1)*1:=by simp)
      all_goals repeat' ((conv=>whnf);first|refine exI (f0 _ rfl) ?_|refine exI (f1 _ rfl) ?_|refine exI (f2 _ rfl) ?_|refine exI (fd _ rfl) ?_|refine exI hx ?_|(with_reducible refine ixJ _ rfl ?_ ?_;focus omega)|(refine apS ?_)|refine stp ?_|with_reducible apply Z01<;>intro h)
      all_goals (conv=>whnf)
      · refine⟨⟨[],[],⟨i,5,tp,op⟩,k⟩,⟨ok2,λhe=>by have:=hlt2 he;simp only at this⊢;omega,by simp at hd⊢;omega,by simp at ht⊢;omega,by simpa using hF⟩,Y04 _,?_⟩
        refine Y03 [0,1,2,3] rfl rfl ?_ ⟨hbp,hbp,hbp,⟨rfl,rfl,rfl,rfl,Y05 ?_⟩,trivial⟩ rfl
        ·exact wks
        · dsimp only[Za0,thS,Z8V,Y01]
          exact wks
      · refine⟨⟨[],(b::ts),⟨i,5,tp,op⟩,k⟩,⟨ok2,λhe=>by have:=hlt2 he;simp only at this⊢;omega,by simp at hd⊢;omega,by simp at ht⊢;omega,by simpa using hF⟩,Y04 _,?_⟩
        refine Y03 [0,1,2,3,4] rfl rfl ?_ ⟨hbp,hbp,hbp,⟨rfl,rfl,rfl,rfl,Y05 ?_⟩,⟨rfl,rfl,rfl,rfl,Z07 rfl (Z1Z _)⟩,trivial⟩ rfl
        ·exact wks
        · dsimp only[Za0,thS,Z8V,Y01]
          exact wks
      · refine⟨⟨(a::ds),[],⟨i,5,tp,op⟩,k⟩,⟨ok2,λhe=>by have:=hlt2 he;simp only at this⊢;omega,by simp at hd⊢;omega,by simp at ht⊢;omega,by simpa using hF⟩,Y04 _,?_⟩
        refine Y03 [0,1,2,3,4] rfl rfl ?_ ⟨hbp,hbp,hbp,⟨rfl,rfl,rfl,rfl,Y05 ?_⟩,⟨rfl,rfl,rfl,rfl,Z07 rfl (Z0h _)⟩,trivial⟩ rfl
        ·exact wks
        · dsimp only[Za0,thS,Z8V,Y01]
          exact wks
      · refine⟨⟨(a::ds),(b::ts),⟨i,5,tp,op⟩,k⟩,⟨ok2,λhe=>by have:=hlt2 he;simp only at this⊢;omega,by simp at hd⊢;omega,by simp at ht⊢;omega,by simpa using hF⟩,Y04 _,?_⟩
        refine Y03 [0,1,2,3,4,5] rfl rfl ?_ ⟨hbp,hbp,hbp,⟨rfl,rfl,rfl,rfl,Y05 ?_⟩,⟨rfl,rfl,rfl,rfl,Z07 rfl (Z0h _)⟩,⟨rfl,rfl,rfl,rfl,Z07 rfl (Z1Z _)⟩,trivial⟩ rfl
        ·exact wks
        · dsimp only[Za0,thS,Z8V,Y01]
          exact wks
 · have hE2:=Z9c hc k ds ts
   rw[hE2]at hF
   simp only[Prod.mk.injEq]at hF
   obtain⟨⟨rfl,rfl⟩,rfl⟩:=hF
   have e5:s.err=0->((Z0r T s).kind != 5)=false:=λhe=>by
    cases h:((Z0r T s).kind != 5) with
    |false=>rfl
    |true=>exact absurd ⟨he,by simpa using h⟩ hc
   have f0:=λX hX=>qe X hX hs
   clear tk tn qd qk qf qe hE2 hc qa h0 hP hk hEF
   generalize Z0r T s=t at *
   obtain⟨tk_,tx,tn_,tp⟩:=t
   obtain⟨i,err,at_,op⟩:=s
   obtain⟨fi,fe,fa,fo⟩:=F
   simp only at e5 hD
   have e0:err=0\/(err==0)=false:=by
    by_cases h:err=0
    ·exact .inl h
    ·exact .inr (by simpa using h)
   have hfe:(fe=0/\ds=D'/\ts=S')\/((fe==0)=false/\(fe != 0)=true/\D'=[]/\S'=[]):=by
    rcases hD with h|⟨h,h2,h3⟩
    ·exact .inl ⟨h.1,h.2.1.symm,h.2.2.symm⟩
    ·exact .inr ⟨by simpa using h,by simpa using h,h2,h3⟩
   clear hD
   simp only[psH,Tq.cells]at *
   rcases e0 with rfl|e0<;>rcases hfe with ⟨rfl,rfl,rfl⟩|⟨f1,f2,rfl,rfl⟩
   case' inl.inl=>have e6:=e5 rfl
   case' inl.inr=>have e6:=e5 rfl
   all_goals clear e5
   all_goals (
    rcases ds with _|⟨a,ds⟩<;>rcases ts with _|⟨b,ts⟩
    all_goals simp only[Za0,ZpA,dcN,thN,thS,Zpm,Z8V,Y08,Y09,Y0a,Y07,Y01]at *
    all_goals (try have hcl:=Z1T (a::ds))
    all_goals (try have hcl2:((b::ts).map stA).length=(ts.length+1)*1:=by simp)
    · repeat' ((conv=>whnf);first|refine exI (f0 _ rfl) ?_|refine exI (q9 _ _ (Zg8 (Z80 rfl rfl))) ?_|refine exI hx ?_|(with_reducible refine ixJ _ rfl ?_ ?_;focus omega)|refine stp ?_|with_reducible apply Z01<;>intro h)
      conv=>whnf
      first|exact λsn v h=>Z5G h|exact⟨_,Z7s (Z80 rfl rfl) (Z5y rfl),λsn v h=>Z5G h⟩|exact λsn v h=>Z5G (D:=[]) (S:=[]) h|exact⟨_,rfl,λsn v h=>Z5G (D:=[]) (S:=[]) h⟩
    · repeat' ((conv=>whnf);first|refine exI (f0 _ rfl) ?_|(refine exI (q9 _ _ (Zg8 (Z80 rfl (Z0B (n:=27) rfl hcl2 (Z1Z (b::ts)))))) ?_)|refine exI hx ?_|(with_reducible refine ixJ _ rfl ?_ ?_;focus omega)|refine stp ?_|with_reducible apply Z01<;>intro h)
      conv=>whnf
      first|exact λsn v h=>Z5G h|exact⟨_,Z7s (Z80 rfl (Z0B (n:=26) rfl hcl2 (Z1Z (b::ts)))) (Z5y rfl),λsn v h=>Z5G h⟩|exact λsn v h=>Z5G (D:=[]) (S:=[]) h|exact⟨_,rfl,λsn v h=>Z5G (D:=[]) (S:=[]) h⟩
    · repeat' ((conv=>whnf);first|refine exI (f0 _ rfl) ?_|(refine exI (q9 _ _ (Zg8 (Z80 (Z0B (n:=27) rfl hcl (Z0h (a::ds))) rfl))) ?_)|refine exI hx ?_|(with_reducible refine ixJ _ rfl ?_ ?_;focus omega)|refine stp ?_|with_reducible apply Z01<;>intro h)
      conv=>whnf
      first|exact λsn v h=>Z5G h|exact⟨_,Z7s (Z80 (Z0B (n:=26) rfl hcl (Z0h (a::ds))) rfl) (Z5y rfl),λsn v h=>Z5G h⟩|exact λsn v h=>Z5G (D:=[]) (S:=[]) h|exact⟨_,rfl,λsn v h=>Z5G (D:=[]) (S:=[]) h⟩
    · repeat' ((conv=>whnf);first|refine exI (f0 _ rfl) ?_|(refine exI (q9 _ _ (Zg8 (Z80 (Z0B (n:=27) rfl hcl (Z0h (a::ds))) (Z0B (n:=27) rfl hcl2 (Z1Z (b::ts)))))) ?_)|refine exI hx ?_|(with_reducible refine ixJ _ rfl ?_ ?_;focus omega)|refine stp ?_|with_reducible apply Z01<;>intro h)
      conv=>whnf
      first|exact λsn v h=>Z5G h|exact⟨_,Z7s (Z80 (Z0B (n:=26) rfl hcl (Z0h (a::ds))) (Z0B (n:=26) rfl hcl2 (Z1Z (b::ts)))) (Z5y rfl),λsn v h=>Z5G h⟩|exact λsn v h=>Z5G (D:=[]) (S:=[]) h|exact⟨_,rfl,λsn v h=>Z5G (D:=[]) (S:=[]) h⟩)
end
section
variable {gl:Z0k}
theorem Zip:∀{ts:List (List St)},(∀t∈ts,rightSL t=true)->Z1z ts=true
 |[],_=>rfl
 |t::l,h=>by
  simp only[Z1z,Bool.and_eq_true]
  exact⟨h t (by simp),Zip λx hx=>h x (by simp[hx])⟩
theorem Ziy{T:List Tq}{D:List Dc}{S:List (List St)}{E:Ps}(h:PrF T D S E):Z19 ⟨D,S⟩=0\/Z19 ⟨D,S⟩=3:=by
 unfold Z19
 split
 ·exact .inr rfl
 · left
   have h1:D.all dcB=true:=List.all_eq_true.2 λd hd=>by
    have:=h.dok d hd
    unfold dcB
    rw[this.1.1]
    simpa using this.2
   have h2:Z1z S=true:=Zip λt ht=>(h.tok t ht).1.2
   rw[h1,h2]
   rfl
theorem Z5A{T:List Tq}{E:Ps}(h:(Z2x T E).err≠0)(c:Int):ZaH T E c=Z2x T E:=by
 unfold ZaH
 split
 ·unfold Z0p;rw[if_neg h]
 ·rfl
theorem Z2k{T:List Tq}{E:Ps}{c:Int}(h:c≠3):ZaH T E c=Z2x T E:=by unfold ZaH;rw[if_neg h]
theorem Z7x{T:List Tq}{E:Ps}(h:(Z2x T E).err=0):(ZaH T E 3).err=3/\(ZaH T E 3).at_=0:=by
 unfold ZaH Z0p;rw[if_pos rfl,if_pos h];exact⟨rfl,rfl⟩
theorem ZbQ{T:List Tq}{E:Ps}(h:E.err≠0):Z2x T E=E:=by unfold Z2x;rw[if_neg (λhh=>h hh.1)]
theorem Z9N {s : List UInt8} (hs : s.length <= 65536) : (∃ e, Z6D s = .inl e /\ Z9W Y00 gl 43 [.str s] (.ptr 0 0) (psH endT ⟨0, 4, (e : Nat), 0⟩)) \/
  ∃l,Z6D s = .inr l/\Z0C s=Z72 l s.length/\Z9W Y00 gl 43 [.str s] (.ptr 0 0) (psH (Z0C s) s0):=by
 have hA:=Zkt (gl:=gl) s hs
 cases hl:Z6D s with
 |inl e =>
  have h1:Zck s = .tuple [.nslice,.agg [.int .i64 4,.int .i64 (e:Nat)]]:=by unfold Zck;rw[if_neg (by omega),hl]
  rw[h1]at hA
  exact .inl ⟨e,rfl,Zkj (by decide) hA⟩
 |inr l =>
  rw[ZhX hl hs]at hA
  have ht:Z0C s=Z72 l s.length:=by unfold Z0C;rw[hl]
  refine .inr ⟨l,rfl,ht,?_⟩
  rw[ht]
  exact Zht hA
theorem Z98{s:List UInt8}{e:Nat}(h:Z6D s = .inl e)(run:List Tq->Ps):Z1a s run=(4,(e:Int)):=by unfold Z1a;rw[h]
theorem Z7f{s:List UInt8}{l:List Tk}(h:Z6D s = .inr l)(run:List Tq->Ps):Z1a s run=((Z2x (Z0C s) (run (Z0C s))).err,(Z2x (Z0C s) (run (Z0C s))).at_):=by
 have ht:Z0C s=Z72 l s.length:=by unfold Z0C;rw[h]
 unfold Z1a;rw[h,ht]
theorem ZjQ(e a:Int)(he:e≠0):Z1k endT (endT.length+1) [] [] ⟨0,e,a,0⟩=(([],[]),⟨0,e,a,0⟩):=Z9c (λh=>he h.1) _ _ _
theorem Zhq:Z19 ⟨[],[]⟩=0:=rfl
theorem ZgY{s:List UInt8}(hs:s.length<=65536):ValOK Y00 gl 21 [.str s] (.tuple [(Z0S s).2.av,.agg [.int .i64 (Z0S s).1.1,.int .i64 (Z0S s).1.2]]):=by
 rcases Z9N (gl:=gl) hs with ⟨e,hl,hB⟩|⟨l,hl,ht,hB⟩
 · have hX:Z0S s=((4,(e:Int)),⟨[],[]⟩):=by unfold Z0S;rw[Z98 hl];rw[if_pos (show (4:Int)≠0 by decide)]
   rw[hX]
   have hC:=Z7z (gl:=gl) ⟨[],[]⟩ ⟨⟨Y06 _,λd hd=>by cases hd⟩,trivial,Y06 _⟩ (Y06 _)
   rw[Zhq]at hC
   exact ZcN (F:=⟨0,4,(e:Int),0⟩) (ZeS 4 e) hB (ZjQ 4 e (by decide)) hC (by rw[Z2k (by decide)];exact ZbQ (show (4:Int)≠0 by decide)) (.inr ⟨show (4:Int)≠0 by decide,rfl,rfl⟩)
 · have hP:=Zcv hl hs
   have hW:=Zcu hl hs s.length
   rw[<- ht]at hP hW
   have hany:=Zls hW hP
   have hC:=Z7z (gl:=gl) ⟨(Z2b (Z0C s)).1.1,(Z2b (Z0C s)).1.2⟩ hany.1 hany.2
   have key:=λ{D':List Dc} {S':List (List St)} hD=>ZcN (gl:=gl) (E:=(Z2b (Z0C s)).2) (D:=(Z2b (Z0C s)).1.1) (S:=(Z2b (Z0C s)).1.2) (D':=D') (S':=S') hP hB rfl hC rfl hD
   have hr:=Z7f hl ZcF
   by_cases h0:(Z1a s ZcF).1=0
   · have hfine:=Z9b hs h0
     have he:(Z2x (Z0C s) (Z2b (Z0C s)).2).err=0:=by rw[hr]at h0;exact h0
     have ha:(Z2x (Z0C s) (Z2b (Z0C s)).2).at_=0:=by have:=hfine.2.1;rw[hr]at this;exact this
     rcases Ziy hfine.1 with hc|hc
     · have hX:Z0S s=((0,0),Z3W s):=by unfold Z0S;rw[if_neg (by simpa using h0),if_neg (by simpa[Z3W]using hc)]
       rw[hX]
       have h1:=key (D':=(Z2b (Z0C s)).1.1) (S':=(Z2b (Z0C s)).1.2) (.inl ⟨by rw[hc,Z2k (by decide)];exact he,rfl,rfl⟩)
       rw[hc,Z2k (by decide),he,ha]at h1
       exact h1
     · have hX : Z0S s = ((3, 0), ⟨[], []⟩) := by
        have hc':Z19 (Z3W s)=3:=hc
        unfold Z0S;rw[if_neg (by simpa using h0),hc',if_pos (by decide)]
       rw[hX]
       obtain⟨g1,g2⟩:=Z7x he
       have h1:=key (D':=[]) (S':=[]) (.inr ⟨by rw[hc,g1];decide,rfl,rfl⟩)
       rw[hc,g1,g2]at h1
       exact h1
   · have hX:Z0S s=(Z1a s ZcF,⟨[],[]⟩):=by unfold Z0S;rw[if_pos h0]
     rw[hX]
     have he:(Z2x (Z0C s) (Z2b (Z0C s)).2).err≠0:=by rw[hr]at h0;exact h0
     have h1:=key (D':=[]) (S':=[]) (.inr ⟨by rw[Z5A he];exact he,rfl,rfl⟩)
     rw[Z5A he]at h1
     rw[hr]
     exact h1
theorem ZoI(e a:Int)(he:e≠0):∀d,unF endT d ⟨0,e,a,0⟩=(ex0,⟨0,e,a,0⟩):=by
 intro d
 cases d with
 |zero=>rfl
 |succ d =>
  have e1:(e==0)=false:=by simpa using he
  unfold unF isF
  simp only[e1,Bool.false_and]
  rw[if_pos (by simp)]
  unfold Z1m
  rw[if_pos he]
theorem Zdm(e a:Int)(he:e≠0)(rec1:Ps->Ex×Ps):∀(l:List (List UInt8×Int))(x:Ex)(b:Bool),Z1s endT rec1 l x ⟨0,e,a,0⟩ b=(x,⟨0,e,a,0⟩,b)
 |[],x,b=>rfl
 |(w,o)::l,x,b=>by
  have e1:(e==0)=false:=by simpa using he
  unfold Z1s Z0L Z0l isF
  simp only[e1,Bool.false_and,Bool.false_eq_true,if_false]
  exact Zdm e a he rec1 l x b
theorem Zgg(e a:Int)(he:e≠0)(d:Nat):∀m,Z3A endT (unF endT d) m ⟨0,e,a,0⟩=(ex0,⟨0,e,a,0⟩)
 |0=>ZoI e a he d
 |m+1=>by
  unfold Z3A
  rw[Zgg e a he d m]
  simp only
  cases hk:endT.length+1 with
  |zero=>rfl
  |succ k =>
   unfold Z24
   rw[Zdm e a he]
   simp
theorem ZjR(e a:Int)(he:e≠0):Z0D endT ⟨0,e,a,0⟩=(ex0,⟨0,e,a,0⟩):=Zgg e a he _ _
theorem Zis{s:List UInt8}(hs:s.length<=65536):ValOK Y00 gl 23 [.str s] (.tuple [.agg (Z26 s).2.cells,.agg [.int .i64 (Z26 s).1.1,.int .i64 (Z26 s).1.2]]):=by
 rcases Z9N (gl:=gl) hs with ⟨e,hl,hB⟩|⟨l,hl,ht,hB⟩
 · have hX:Z26 s=((4,(e:Int)),ex0):=by unfold Z26;rw[Z98 hl];rw[if_pos (show (4:Int)≠0 by decide)]
   rw[hX]
   have hC:=ZaL (gl:=gl) ex0 Zes (by decide)
   have h3:Z2V ex0≠3:=by decide
   exact ZcM (F:=⟨0,4,(e:Int),0⟩) (ZeS 4 e) hB (ZjR 4 e (by decide)) hC (by rw[Z2k h3];exact ZbQ (show (4:Int)≠0 by decide)) (.inr ⟨show (4:Int)≠0 by decide,rfl⟩)
 · have hP:=Zcv hl hs
   have hW:=Zcu hl hs s.length
   rw[<- ht]at hP hW
   have hany:=Zme hW hP
   have hC:=ZaL (gl:=gl) (Z2M (Z0C s)).1 hany.1 hany.2
   have key:=λ{e':Ex} hD=>ZcM (gl:=gl) (E:=(Z2M (Z0C s)).2) (e:=(Z2M (Z0C s)).1) (e':=e') hP hB rfl hC rfl hD
   have hr:=Z7f hl ZgW
   by_cases h0:(Z1a s ZgW).1=0
   · have hfine:=Z9E hs h0
     have he:(Z2x (Z0C s) (Z2M (Z0C s)).2).err=0:=by rw[hr]at h0;exact h0
     have ha:(Z2x (Z0C s) (Z2M (Z0C s)).2).at_=0:=by have:=hfine.2.1;rw[hr]at this;exact this
     have hck:Z2V (Z2M (Z0C s)).1=0\/Z2V (Z2M (Z0C s)).1=3:=by
      unfold Z2V
      split
      ·exact .inr rfl
      ·left;rw[if_pos hfine.1.2]
     rcases hck with hc|hc
     · have hX:Z26 s=((0,0),(Z2M (Z0C s)).1):=by unfold Z26;rw[if_neg (by simpa using h0),if_neg (by simpa using hc)]
       rw[hX]
       have h1:=key (e':=(Z2M (Z0C s)).1) (.inl ⟨by rw[hc,Z2k (by decide)];exact he,rfl⟩)
       rw[hc,Z2k (by decide),he,ha]at h1
       exact h1
     · have hX:Z26 s=((3,0),ex0):=by unfold Z26;rw[if_neg (by simpa using h0),hc,if_pos (by decide)]
       rw[hX]
       obtain⟨g1,g2⟩:=Z7x he
       have h1:=key (e':=ex0) (.inr ⟨by rw[hc,g1];decide,rfl⟩)
       rw[hc,g1,g2]at h1
       exact h1
   · have hX:Z26 s=(Z1a s ZgW,ex0):=by unfold Z26;rw[if_pos h0]
     rw[hX]
     have he:(Z2x (Z0C s) (Z2M (Z0C s)).2).err≠0:=by rw[hr]at h0;exact h0
     have h1:=key (e':=ex0) (.inr ⟨by rw[Z5A he];exact he,rfl⟩)
     rw[Z5A he]at h1
     rw[hr]
     exact h1
theorem ZfM(t:List St)(hok:okSL t)(ht:t.length<=9223372036854775807)(hs:sizeSL t<=1048576):ValOK Y00 gl 11 [.agg [.nslice,.rs 1 1 [stA t]]] (.int .i64 (Z19 ⟨[],[t]⟩)):=by
 have h:=Z7z (gl:=gl) ⟨[],[t]⟩ ⟨⟨by simp,by simp⟩,by simp only[ZhI];exact⟨hok,ht,trivial⟩,by simp⟩ (by simp only[Z0H];omega)
 refine h.weak λsn vs h=>?_
 simp only[Pr.av,LR,VR]at h⊢
 obtain⟨d,ds,e,⟨d',h1,d1,l1,e1,g1,d2,l2,e2,g2,g3⟩,r⟩:=h
 exact⟨d,ds,e,⟨d',h1,d1,l1,e1,.inl ⟨rfl,rfl,g1⟩,d2,l2,e2,g2,g3⟩,r⟩
theorem ZgX{s:List UInt8}(hs:s.length<=65536):ValOK Y00 gl 22 [.str s] (.tuple [stA (Z17 s).2,.agg [.int .i64 (Z17 s).1.1,.int .i64 (Z17 s).1.2]]):=by
 rcases Z9N (gl:=gl) hs with ⟨e,hl,hB⟩|⟨l,hl,ht,hB⟩
 · have hX:Z17 s=((4,(e:Int)),[]):=by unfold Z17;rw[Z98 hl];rw[if_pos (show (4:Int)≠0 by decide)]
   rw[hX]
   have hC:=ZfM (gl:=gl) [] trivial (Y06 _) (Y06 _)
   have h0:Z19 ⟨[],[[]]⟩=0:=rfl
   rw[h0]at hC
   exact Zam (F:=⟨0,4,(e:Int),0⟩) (ZeS 4 e) hB (Z6f (T:=endT) (stm:=Z1D endT) (w:=[]) (s:=⟨0,4,(e:Int),0⟩) (λh=>absurd h.1 (show ¬(4:Int)=0 by decide)) _) hC (by rw[Z2k (by decide)];exact ZbQ (show (4:Int)≠0 by decide)) (.inr ⟨show (4:Int)≠0 by decide,rfl⟩)
 · have hP:=Zcv hl hs
   have hW:=Zcu hl hs s.length
   rw[<- ht]at hP hW
   have hany:=Zi5 hW hP (Z6g hP).ok.lt
   have hC:=ZfM (gl:=gl) (Z1h (Z0C s)).1 hany.1 (Nat.le_trans hany.2.1 (by decide)) hany.2.2
   have key:=λ{l':List St} hD=>Zam (gl:=gl) (E:=(Z1h (Z0C s)).2) (l:=(Z1h (Z0C s)).1) (l':=l') hP hB rfl hC rfl hD
   have hr:=Z7f hl Zem
   by_cases h0:(Z1a s Zem).1=0
   · have hfine:=Z78 hs h0
     have he:(Z2x (Z0C s) (Z1h (Z0C s)).2).err=0:=by rw[hr]at h0;exact h0
     have ha:(Z2x (Z0C s) (Z1h (Z0C s)).2).at_=0:=by have:=hfine.2.1;rw[hr]at this;exact this
     have hck:Z19 ⟨[],[(Z1h (Z0C s)).1]⟩=0\/Z19 ⟨[],[(Z1h (Z0C s)).1]⟩=3:=by
      unfold Z19
      split
      ·exact .inr rfl
      · left
        have h2:Z1z [(Z1h (Z0C s)).1]=true:=by simp only[Z1z,hfine.1.2];rfl
        simp only[h2]
        rfl
     rcases hck with hc|hc
     · have hX:Z17 s=((0,0),(Z1h (Z0C s)).1):=by unfold Z17;rw[if_neg (by simpa using h0),if_neg (by simpa using hc)]
       rw[hX]
       have h1:=key (l':=(Z1h (Z0C s)).1) (.inl ⟨by rw[hc,Z2k (by decide)];exact he,rfl⟩)
       rw[hc,Z2k (by decide),he,ha]at h1
       exact h1
     · have hX:Z17 s=((3,0),[]):=by unfold Z17;rw[if_neg (by simpa using h0),hc,if_pos (by decide)]
       rw[hX]
       obtain⟨g1,g2⟩:=Z7x he
       have h1:=key (l':=[]) (.inr ⟨by rw[hc,g1];decide,rfl⟩)
       rw[hc,g1,g2]at h1
       exact h1
   · have hX:Z17 s=(Z1a s Zem,[]):=by unfold Z17;rw[if_pos h0]
     rw[hX]
     have he:(Z2x (Z0C s) (Z1h (Z0C s)).2).err≠0:=by rw[hr]at h0;exact h0
     have h1:=key (l':=[]) (.inr ⟨by rw[Z5A he];exact he,rfl⟩)
     rw[Z5A he]at h1
     rw[hr]
     exact h1
end
end Go.Proofs.YtneoiadnbikciaaGreatDoor.lex
section
namespace Go.Proofs.YtneoiadnbikciaaGreatDoor.lex
open Go.Abs Go.RowKit
variable {gl:Z0k}
theorem Zh7{s:List UInt8}(hs:s.length<=65536):okP (Z0S s).2:=by
 have hz:okP ⟨[],[]⟩:=⟨⟨Y06 _,λd hd=>by cases hd⟩,trivial,Y06 _⟩
 unfold Z0S
 split
 ·exact hz
 · rename_i h
   split
   ·exact hz
   · have h0:=Classical.not_not.1 h
     obtain⟨hF,h2,hg,-⟩:=Z9b hs h0
     exact (ZeK hF hg).1
theorem ZjL{s:List UInt8}(hs:s.length<=65536):okE (Z26 s).2:=by
 unfold Z26
 split
 ·exact Zes
 · rename_i h
   split
   ·exact Zes
   ·exact (Z9E hs (Classical.not_not.1 h)).1.1
theorem ZcB{s:List UInt8}(hs:s.length<=65536):okSL (Z17 s).2/\(Z17 s).2.length<=9223372036854775807:=by
 unfold Z17
 split
 ·exact⟨trivial,Y06 _⟩
 · rename_i h
   split
   ·exact⟨trivial,Y06 _⟩
   · have:=Z78 hs (Classical.not_not.1 h)
     exact⟨this.1.1,Nat.le_trans this.2.2.2 (by decide)⟩
def ZrV(f:Nat):Bool:=Y02 f 8 || (Y02 f 21 || (Y02 f 19 || (Y02 f 22 || (Y02 f 15 || (Y02 f 23 || (Y02 f 9 || (Y02 f 24 || (Y02 f 20 || Y02 f 7))))))))
theorem re_big(s:List UInt8)(hs:¬s.length<=4000):ValOK Y00 runLives.gl 6 [.str s] (.bool true):=by
 have e1:decide ((s.length:Int)>4000)=true:=by simp;omega
 obtain⟨O,hO,p2,-⟩:=fams (P:=Y00) (gl:=runLives.gl) [Z2X (by kernel_rfl) rfl ZiU] rfl
 have q3:∀H,Z06 Y00 O H 7 []=some (.bool true,H):=p2 () trivial
 refine Z2f ZrV 3 follows Z05 hO Tryz.func6 rfl ?_
 repeat' ((conv=>whnf);first|refine exI (q3 _) ?_|refine stp ?_|with_reducible apply Z01<;>intro h)
 all_goals rfl
theorem re_law(s:List UInt8)(hs:s.length<=4000):ValOK Y00 runLives.gl 6 [.str s] (.bool true):=by
 have e1:decide ((s.length:Int)>4000)=false:=by simp;omega
 have hs':s.length<=65536:=by omega
 have a1:=Z9d hs'
 have a2:=ZgY (gl:=runLives.gl) hs'
 have a3:=ZcA hs'
 have a4:=ZgX (gl:=runLives.gl) hs'
 have a5:=Zgc hs'
 have a6:=Zis (gl:=runLives.gl) hs'
 have a7:=ZfW (gl:=runLives.gl) (Z0S s).2 (Z0S s).2 (Zh7 hs')
 have a8:=Z9n (gl:=runLives.gl) _ (Z17 s).2 (Z17 s).2 (Nat.le_refl _) (ZcB hs').1 (ZcB hs').2
 have a9:=Z8B (gl:=runLives.gl) _ (Z26 s).2 (Z26 s).2 (Nat.le_refl _) (ZjL hs')
 rw[Zai]at a7
 rw[sameSL_self]at a8
 rw[Z7d]at a9
 generalize Z0S s=x1 at *
 generalize Z17 s=x2 at *
 generalize Z26 s=x3 at *
 obtain⟨⟨u1,u2⟩,⟨ds,ts⟩⟩:=x1
 obtain⟨⟨v1,v2⟩,l⟩:=x2
 obtain⟨⟨w1,w2⟩,⟨eo,en,es,ek⟩⟩:=x3
 simp only[Pr.av,stA,Ex.cells]at a1 a2 a3 a4 a5 a6 a7 a8 a9
 obtain⟨O,hO,p1,p2,p3,p4,p5,p6,p7,p8,p9,p10,-⟩:=fams (P:=Y00) (gl:=runLives.gl) [Z2X (by kernel_rfl) rfl a1,Z2X (by kernel_rfl) rfl a2,Z2X (by kernel_rfl) rfl a3,Z2X (by kernel_rfl) rfl a4,Z2X (by kernel_rfl) rfl a5,Z2X (by kernel_rfl) rfl a6,Z2X (by kernel_rfl) rfl a7,Z2X (by kernel_rfl) rfl a8,Z2X (by kernel_rfl) rfl a9,Z2X (by kernel_rfl) rfl ZiU] rfl
 have q1:=λH=>p1 () trivial H
 have q2:=λH=>p2 () trivial H
 have q3:=λH=>p3 () trivial H
 have q4:=λH=>p4 () trivial H
 have q5:=λH=>p5 () trivial H
 have q6:=λH=>p6 () trivial H
 have q7:=λH=>p7 () trivial H
 have q8:=λH=>p8 () trivial H
 have q9:=λH=>p9 () trivial H
 have q10:=λH=>p10 () trivial H
 simp only[Z2X]at q1 q2 q3 q4 q5 q6 q7 q8 q9 q10
 clear p1 p2 p3 p4 p5 p6 p7 p8 p9 p10 a1 a2 a3 a4 a5 a6 a7 a8 a9
 have c1:(u1==u1&&(u2==u2&&true))=true:=by simp
 have c2:(v1==v1&&(v2==v2&&true))=true:=by simp
 have c3:(w1==w1&&(w2==w2&&true))=true:=by simp
 refine Z2f ZrV 3 follows Z05 hO Tryz.func6 rfl ?_
 repeat' ((conv=>whnf);first|refine exI (Zpc _ _ _ _) ?_|refine exI (q10 _) ?_|refine exI (q1 _) ?_|refine exI (q2 _) ?_|refine exI (q3 _) ?_|refine exI (q4 _) ?_|refine exI (q5 _) ?_|refine exI (q6 _) ?_|refine exI (q7 _) ?_|refine exI (q8 _) ?_|refine exI (q9 _) ?_|refine stp ?_|with_reducible apply Z01<;>intro h)
 all_goals first|rfl|(show AV.bool _=AV.bool true;rw[c3])
end Go.Proofs.YtneoiadnbikciaaGreatDoor.lex
namespace Go.Proofs.YtneoiadnbikciaaGreatDoor.reLaw
open Go.Abs Go.RowKit
def Qs:List (AV->Prop):=[λu=>∃s:List UInt8,u = .str s/\s.length<=maxLen]
theorem opens:Z6Z Y00 Tryz.f6.params.toList Qs:=by
 rw[Tryz.params6]
 exact⟨Zha Tryz.underlying9,trivial⟩
theorem law(us:List AV)(h:Znp Qs us):ValOK Y00 runLives.gl 6 us (.bool true):=by
 obtain⟨_,_,rfl,⟨a,rfl,ha⟩,h1⟩:=Zku h
 cases ZgD h1
 by_cases h:a.length<=4000
 ·exact lex.re_law a h
 ·exact lex.re_big a h
theorem solid:Solid Y00:=by unfold Solid;kernel_rfl
end Go.Proofs.YtneoiadnbikciaaGreatDoor.reLaw
end

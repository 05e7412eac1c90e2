/-
  Texts of this proof, one behind the other (part 6).
-/
import Derived.Test.YtneoiadnbikciaaGreatDoorXr5
import Derived.Recover
import Derived.Tactics2
set_option linter.unusedVariables false
set_option linter.unusedSimpArgs false
set_option maxRecDepth 100000
set_option maxHeartbeats 4000000
open Go.Proofs.Tryz renaming prog → Y00,f26 → Y0g,func41 → Y0j
open List renaming cons_append → Y01,nil_append → Y02,length_cons → Y05,length_nil → Y0c,getElem?_eq_getElem → Y0e,getElem?_eq_some_iff → Y0i,length_append → Y0k,append_nil → Y0m,getElem?_append_left → Y0o,length_drop → Y0s,take_zero → Y0u,drop_eq_getElem_cons → Y0v,drop_drop → Y0w,append_assoc → Y0x,take_succ_cons → Y0B,getD_eq_getElem?_getD → Y0C,take_length → Y0D,drop_succ_cons → Y0E,getElem?_append_right → Y0F,mem_of_getElem? → Y0G,getElem?_cons_zero → Y0H
open Go.Abs.Wk renaming noref → Y03,int → Y06,map → Y08,ptr → Y0d,tuple → Y0f,bool → Y0l
open Nat renaming beq → Y04,le_refl → Y0a,lt_succ_self → Y0h,zero_le → Y0n,lt_of_lt_of_le → Y0p,add_zero → Y0z,eq_of_beq_eq_true → Y0J
open Go.Abs.FgLK renaming mk → Y07
open Go.Abs.BodyGe renaming cellsL → Y09,z → Y0q
open And renaming intro → Y0b
open Bool renaming false_eq_true → Y0r,and_eq_true → Y0y
open Option renaming map_some → Y0t
open Array renaming getElem?_setIfInBounds → Y0A,toList_inj → Y0I
namespace Go.Proofs.YtneoiadnbikciaaGreatDoor.lex
open Go.Abs Go.RowKit
section
variable {gl:Z0k}
def Zoi(T:List Tq)(hT:TqOK T):FamX Y00 gl:=Z9r T 87 (by kernel_rfl) (I:=Int) (λ_ s=>GOK T s) (λk=>[.ptr 0 0,.int .i64 k]) (λk s=>.agg (Zms T k s).1.cells) (λk s=>(Zms T k s).2) (λ_=>rfl) (λi j h=>by simpa using h) (λk s h=>Zjj hT h k)
def Zoe(T:List Tq)(hT:TqOK T):FamX Y00 gl:=Z9r T 82 (by kernel_rfl) (I:=Unit) (λ_ s=>GOK T s) (λ_=>[.ptr 0 0]) (λ_ s=>.agg (Z3D T [] s).1.cells) (λ_ s=>(Z3D T [] s).2) (λ_=>rfl) (λ_ _ _=>rfl) (λ_ s h=>Zj8 hT h)
def Zd3(f:Nat):Bool:=Y04 f 57 || (Y04 f 81 || (Y04 f 80 || (Y04 f 83 || (Y04 f 84 || (Y04 f 86 || (Y04 f 85 || (Y04 f 87 || (Y04 f 89 || (Y04 f 59 || (Y04 f 88 || (Y04 f 82 || Y04 f 56)))))))))))
theorem Zby{T:List Tq}{s:Ps}{w:List UInt8}(hw:isF T s w=true):∀v,(v==w)=false->isF T s v=false:=λv hv=>by
 cases h:isF T s v with
 |false=>rfl
 |true =>
  have:=(Z1G h).symm.trans (Z1G hw)
  subst this
  simp at hv
theorem Zhk {T : List Tq} (hT : TqOK T) {blk : Ps -> List St × Ps} {stm : Ps -> St × Ps} {s : Ps} (hg : GOK T s) (hkb : ∀ s, Kr s (blk s).2) (hks : ∀ s, Kr s (stm s).2) (hgb : ∀ t, PsOK T t -> s.i + 1 <= t.i -> PsGo T t (blk t).2)
  (hb:Zpj gl T (s.i+1) blk) (hc:isF T s kIf=true->GOK T (Z02 s)->GX gl T 88 [.ptr 0 0] (Z02 s) (.agg (Zch T blk stm (Z02 s)).1.cells) (Zch T blk stm (Z02 s)).2) :
  GX gl T 41 [.ptr 0 0] s (.agg (Z3n T blk stm s).1.cells) (Z3n T blk stm s).2:=by
 by_cases h0:s.err=0
 case neg=>exact GX.dead h0
 have hx:=tq4 T s.i hg.ok.lt
 rw[<- Z0t hg.ok.lt]at hx
 have hlt:=hg.ok.lt
 have hfew:=hg.ok.few
 have fk:=λw hw=>Z4Y hT hg.ok hg.er (w:=w) hw
 generalize hE:(Z3n T blk stm s).2=E
 have main:∀(V:St),(Z3n T blk stm s).1=V->MemXQ Y00 gl (XF E) 11 41 [.ptr 0 0] (gB T s) (.agg V.cells) (gB T E):=by
  intro V hV
  obtain⟨O,hO,⟨p1,p2,p3,p4,p5,p6,p7,p8,p9,p10,p11,p12,p13,-⟩,-⟩:=Z2w (P:=Y00) (gl:=gl) (XF E) [Z6B T,Z6G T,Z6F T,ZeF T hT,Z39 T,Z4W T,ZeA T hT,Zoi T hT,ZbE T hT,ZeE T (s.i+1) blk hb,Zjk T (Zch T blk stm) (λt=>t=Z02 s/\isF T s kIf=true/\GOK T t) (λt h=>by obtain⟨rfl,h1,h2⟩:=h;exact hc h1 h2),Zoe T hT,Z2Y T] [] rfl
  have qt:=λw (h:gis T s 2 w=true) X hX=>Znk p1 hg h (λu hu=>(Z9V (s:=Z02 s) hg.er u hu).elim) (X:=X) hX
  have qf:=λw (h:gis T s 2 w=false) X hX=>ZhK p1 hg h (X:=X) hX
  have hgs:=λ{w} (h:isF T s w=true)=>hg.go (Z0b hg.ok h) (Z0q s) hg.er
  by_cases hk1:(Z0r T s).kind=1
  ·
   have hno:∀w,isF T s w=false:=λw=>by
    unfold isF
    rw[hk1];simp
   have hwb:Z1Q T s=true:=by unfold Z1Q;rw[hg.er,hk1];rfl
   have hwF:Z0e T s=Z02 s:=by unfold Z0e;rw[if_pos hwb];rfl
   have hwT:Z0Z T s=(Z0r T s).text:=by unfold Z0Z;rw[if_pos hwb]
   have hB:Z3n T blk stm s=(Zr7 (Z0r T s).text (Z3D T [] (Z03 T (Z02 s) [61])).1,Z03 T (Z3D T [] (Z03 T (Z02 s) [61])).2 [59]):=by
    unfold Z3n Z1w
    simp only[hno,Y0r,if_false]
    rw[hwF,hwT,Znt]
   rw[hB]at hE hV
   simp only at hE hV
   have hgw:GOK T (Z02 s):=hg.go (by rw[<- hwF];exact Z5d hg.ok) (Z0q s) hg.er
   have k1:=Z0s T (Z02 s) [61]
   have k2:=Zb2 T [] (Z03 T (Z02 s) [61])
   have k3:=Z0s T (Z3D T [] (Z03 T (Z02 s) [61])).2 [59]
   rw[hE]at k3
   have o1:=λhe=>hgw.go (Z0F hgw.ok [61]) k1 he
   have o2:=λhe1 he=>(o1 he1).go (ZhT (o1 he1).ok []) k2 he
   have g1:∀X,Z08 Z0z X=true->Z06 Y00 O (gL T s.i s.op++X) 80 [.ptr 0 0]=some (.str (Z0r T s).text,gL T (s.i+1) s.op++X):=λX hX=>by
    have h:=Zr1 p3 () s X hg ⟨hg.ok,hg.at0⟩ hX hwF hg.er
    simp only[hwT]at h
    exact h
   have g2:∀X,Z08 Z0z X=true->Z06 Y00 O (gL T (s.i+1) s.op++X) 81 [.ptr 0 0,.str [61]]=some (.tuple [],gB T (Z03 T (Z02 s) [61])++X):=λX hX=>Z87 p2 hT hgw [61] rfl rfl (by decide) (k2.trans k3).x (X:=X) hX
   have g3:=λhe X hX=>Z4Z p12 () (Z03 T (Z02 s) [61]) X (o1 he) (o1 he) k3.x hX
   have g4:GOK T (Z3D T [] (Z03 T (Z02 s) [61])).2->∀X,Z08 Z0z X=true->Z06 Y00 O (gL T (Z3D T [] (Z03 T (Z02 s) [61])).2.i (Z3D T [] (Z03 T (Z02 s) [61])).2.op++X) 81 [.ptr 0 0,.str [59]]=some (.tuple [],gB T E++X):=λh X hX=>by
    have h:=Z87 p2 hT (s:=(Z3D T [] (Z03 T (Z02 s) [61])).2) h [59] rfl rfl (by decide) (by rw[hE];exact λu hu=>hu) (X:=X) hX
    rwa [hE]at h
   clear p1 p2 p3 p4 p5 p6 p7 p8 p9 p10 p11 p12 p13 qt qf hgs hno hwb hwF hwT hB k1 k2 k3 hgw hb hc hgb hkb hks fk hE
   generalize Z03 T (Z02 s) [61]=s1 at *
   generalize Z3D T [] s1=r at *
   obtain⟨⟨y1,y2,y3,y4,y5,y6,y7⟩,s2⟩:=r
   subst hV
   generalize Z0r T s=t at *
   obtain⟨kd,tx,nm,ps⟩:=t
   simp only at hk1
   subst hk1
   refine Z0w Zd3 3 follows Z05 hO Y0j rfl ?_
   rw (occs:=.pos [1]) [Z0c h0]
   simp only[gL,LV,Tq.cells,St.cells,Zr7,exA,Y01,Y02]at g1 g2 g3 g4 hx o2⊢
   repeat' ((conv=>whnf);first|(exact Or.inl rfl)|(refine Or.inr ?_)|refine exI hx ?_|refine exI (g1 _ rfl) ?_|(refine exG (g2 _ rfl) (λhd=>?_) (λe1=>?_))|(refine exG (g3 e1 _ rfl) (λhd=>?_) (λe2=>?_))|(refine exG (g4 (o2 e1 e2) _ rfl) (λhd=>?_) (λe3=>?_))|(with_reducible refine ixJ s.i rfl ?_ ?_;focus omega)|refine stp ?_|with_reducible apply Z01<;>intro h)
   all_goals (conv=>whnf)
   all_goals exact⟨[],M11,rfl,(by refine Z0G ?_ ?_ ?_<;>first|rfl|exact e3),rfl,rfl,.inl (Y03 rfl)⟩
  have e1k:((Z0r T s).kind==1)=false:=by simpa using hk1
  cases hS:isF T s ZcZ with
  |true =>
   have hno:=Zby hS
   have hB:Z3n T blk stm s=((Z2H T [] 3 1 (Z02 s)).1,Z03 T (Z2H T [] 3 1 (Z02 s)).2 [59]):=by
    unfold Z3n Z1w
    rw[hno kIf rfl,hno Z6E rfl,hS]
    simp
   rw[hB]at hE hV
   simp only at hE hV
   have k3:=Z0s T (Z2H T [] 3 1 (Z02 s)).2 [59]
   rw[hE]at k3
   have gm:=qt _ ((fk _ rfl).trans hS)
   have g1:=λX hX=>Znj p4 (hgs hS) 3 1 (by decide) k3.x (X:=X) hX
   have o1:=λhe=>(hgs hS).go (Z7H (hgs hS).ok [] 3 1) (Z7G T [] 3 1 (Z02 s)) he
   have g2:GOK T (Z2H T [] 3 1 (Z02 s)).2->∀X,Z08 Z0z X=true->Z06 Y00 O (gL T (Z2H T [] 3 1 (Z02 s)).2.i (Z2H T [] 3 1 (Z02 s)).2.op++X) 81 [.ptr 0 0,.str [59]]=some (.tuple [],gB T E++X):=λh X hX=>by
    have h:=Z87 p2 hT (s:=(Z2H T [] 3 1 (Z02 s)).2) h [59] rfl rfl (by decide) (by rw[hE];exact λu hu=>hu) (X:=X) hX
    rwa [hE]at h
   clear p1 p2 p3 p4 p5 p6 p7 p8 p9 p10 p11 p12 p13 qt qf hgs hno hB k3 hb hc hgb hkb hks fk hE
   generalize Z2H T [] 3 1 (Z02 s)=r at *
   obtain⟨⟨y1,y2,y3,y4,y5,y6,y7⟩,s2⟩:=r
   simp only at hV
   subst hV
   generalize Z0r T s=t at *
   obtain⟨kd,tx,nm,ps⟩:=t
   refine Z0w Zd3 3 follows Z05 hO Y0j rfl ?_
   rw (occs:=.pos [1]) [Z0c h0]
   simp only[gL,LV,Tq.cells,St.cells,exA,Y01,Y02]at gm g1 g2 hx o1⊢
   repeat' ((conv=>whnf);first|(exact Or.inl rfl)|(refine Or.inr ?_)|refine exI hx ?_|refine exI (gm _ rfl) ?_|(refine exG (g1 _ rfl) (λhd=>?_) (λe1=>?_))|(refine exG (g2 (o1 e1) _ rfl) (λhd=>?_) (λe3=>?_))|(with_reducible refine ixJ s.i rfl ?_ ?_;focus omega)|refine stp ?_|with_reducible apply Z01<;>intro h)
   all_goals (conv=>whnf)
   all_goals exact⟨[],M11,rfl,(by refine Z0G ?_ ?_ ?_<;>first|rfl|exact e3),rfl,rfl,.inl (Y03 rfl)⟩
  |false =>
  have m1:=qf _ ((fk _ rfl).trans hS)
  cases hF:isF T s Zd0 with
  |true =>
   have hno:=Zby hF
   have hB:Z3n T blk stm s=((Zdf T (Z02 s)).1,Z03 T (Zdf T (Z02 s)).2 [59]):=by
    unfold Z3n Z1w
    rw[hno kIf rfl,hno Z6E rfl,hS,hF]
    simp
   rw[hB]at hE hV
   unfold Zdf at hE hV
   simp only at hE hV
   have k1:=Z0s T (Z02 s) [40]
   have k2:=Z3X T ordL (Z03 T (Z02 s) [40]) 1
   have k3:=Z0s T (Z0a T (Z03 T (Z02 s) [40]) ordL 1).2 [41]
   have k4:=Z0s T (Z03 T (Z0a T (Z03 T (Z02 s) [40]) ordL 1).2 [41]) [59]
   rw[hE]at k4
   have gm:=qt _ ((fk _ rfl).trans hF)
   have hgw:=hgs hF
   have o1:=λhe=>hgw.go (Z0F hgw.ok [40]) k1 he
   have o2:=λhe1 he=>(o1 he1).go (Z2s ordL _ 1 (o1 he1).ok) k2 he
   have o3:=λhe1 he2 he=>(o2 he1 he2).go (Z0F (o2 he1 he2).ok [41]) k3 he
   have g1:∀X,Z08 Z0z X=true->Z06 Y00 O (gL T (s.i+1) s.op++X) 84 [.ptr 0 0,.str [40]]=some (.tuple [],gB T (Z03 T (Z02 s) [40])++X):=λX hX=>Zko p5 hT hgw [40] rfl rfl (k2.trans (k3.trans k4)).x (X:=X) hX
   have g2:=λh X hX=>Zni p7 (s:=Z03 T (Z02 s) [40]) h (k3.trans k4).x (X:=X) hX
   have g3:=λh X hX=>Zkm p6 hT (s:=(Z0a T (Z03 T (Z02 s) [40]) ordL 1).2) h [41] rfl rfl rfl (by decide) k4.x (X:=X) hX
   have g4:GOK T (Z03 T (Z0a T (Z03 T (Z02 s) [40]) ordL 1).2 [41])->∀X,Z08 Z0z X=true->Z06 Y00 O (gL T (Z03 T (Z0a T (Z03 T (Z02 s) [40]) ordL 1).2 [41]).i (Z03 T (Z0a T (Z03 T (Z02 s) [40]) ordL 1).2 [41]).op++X) 81 [.ptr 0 0,.str [59]]=some (.tuple [],gB T E++X):=λh X hX=>by
    have h:=Z87 p2 hT (s:=Z03 T (Z0a T (Z03 T (Z02 s) [40]) ordL 1).2 [41]) h [59] rfl rfl (by decide) (by rw[hE];exact λu hu=>hu) (X:=X) hX
    rwa [hE]at h
   clear p1 p2 p3 p4 p5 p6 p7 p8 p9 p10 p11 p12 p13 qt qf hgs hno hB k1 k2 k3 k4 hb hc hgb hkb hks fk hE hgw
   generalize Z03 T (Z02 s) [40]=s1 at *
   generalize Z0a T s1 ordL 1=r at *
   obtain⟨o,s2⟩:=r
   simp only at hV g2 g3 g4 o2 o3
   generalize Z03 T s2 [41]=s3 at *
   subst hV
   refine MemXQ.conv (r:=.agg [.int .i64 7,.str [],.str [],.int .i64 o,.nslice,.nslice,.nslice]) ?_ (λ_ _ _ h=>Z8Y (λ_ h=>Z2o h) (λ_ h=>Z2o h) (λ_ h=>Z2o h) h)
   generalize Z0r T s=t at *
   obtain⟨kd,tx,nm,ps⟩:=t
   refine Z0w Zd3 3 follows Z05 hO Y0j rfl ?_
   rw (occs:=.pos [1]) [Z0c h0]
   simp only[gL,LV,Tq.cells,Y01,Y02]at m1 gm g1 g2 g3 g4 hx⊢
   repeat' ((conv=>whnf);first|(exact Or.inl rfl)|(refine Or.inr ?_)|refine exI hx ?_|refine exI (m1 _ rfl) ?_|refine exI (gm _ rfl) ?_|(refine exG (g1 _ rfl) (λhd=>?_) (λe1=>?_))|(refine exG (g2 (o1 e1) _ rfl) (λhd=>?_) (λe2=>?_))|(refine exG (g3 (o2 e1 e2) _ rfl) (λhd=>?_) (λe3=>?_))|(refine exG (g4 (o3 e1 e2 e3) _ rfl) (λhd=>?_) (λe4=>?_))|(with_reducible refine ixJ s.i rfl ?_ ?_;focus omega)|refine stp ?_|with_reducible apply Z01<;>intro h)
   all_goals (conv=>whnf)
   all_goals exact⟨[],M11,rfl,(by refine Z0G ?_ ?_ ?_<;>first|rfl|exact e4),rfl,rfl,.inl (Y03 rfl)⟩
  |false =>
  have m2:=qf _ ((fk _ rfl).trans hF)
  cases hA:isF T s Z9p with
  |true =>
   have hno:=Zby hA
   have hB:Z3n T blk stm s=Zms T 8 (Z02 s):=by
    unfold Z3n Z1w Zms
    rw[hno kIf rfl,hno Z6E rfl,hS,hF,hA]
    simp
   rw[hB]at hE hV
   have gm:=qt _ ((fk _ rfl).trans hA)
   have g1:∀X,Z08 Z0z X=true->Z06 Y00 O (gL T (s.i+1) s.op++X) 87 [.ptr 0 0,.int .i64 8]=some (.agg V.cells,gB T E++X):=λX hX=>by
    have h:=Z4Z p8 8 (Z02 s) X (hgs hA) (hgs hA) (by simp only[hE];exact λu hu=>hu) hX
    simp only[hE,hV]at h
    exact h
   clear p1 p2 p3 p4 p5 p6 p7 p8 p9 p10 p11 p12 p13 qt qf hgs hno hB hb hc hgb hkb hks fk hE hV
   obtain⟨y1,y2,y3,y4,y5,y6,y7⟩:=V
   generalize Z0r T s=t at *
   obtain⟨kd,tx,nm,ps⟩:=t
   refine Z0w Zd3 3 follows Z05 hO Y0j rfl ?_
   rw (occs:=.pos [1]) [Z0c h0]
   simp only[gL,LV,Tq.cells,St.cells,exA,Y01,Y02]at m1 m2 gm g1 hx⊢
   repeat' ((conv=>whnf);first|(exact Or.inl rfl)|(refine Or.inr ?_)|refine exI hx ?_|refine exI (m1 _ rfl) ?_|refine exI (m2 _ rfl) ?_|refine exI (gm _ rfl) ?_|(refine exG (g1 _ rfl) (λhd=>?_) (λe1=>?_))|(with_reducible refine ixJ s.i rfl ?_ ?_;focus omega)|refine stp ?_|with_reducible apply Z01<;>intro h)
   all_goals (conv=>whnf)
   all_goals exact⟨[],M11,rfl,(by refine Z0G ?_ ?_ ?_<;>first|rfl|exact e1),rfl,rfl,.inl (Y03 rfl)⟩
  |false =>
  have m3:=qf _ ((fk _ rfl).trans hA)
  cases hR:isF T s Z9q with
  |true =>
   have hno:=Zby hR
   have hB:Z3n T blk stm s=Zms T 9 (Z02 s):=by
    unfold Z3n Z1w Zms
    rw[hno kIf rfl,hno Z6E rfl,hS,hF,hA,hR]
    simp
   rw[hB]at hE hV
   have gm:=qt _ ((fk _ rfl).trans hR)
   have g1:∀X,Z08 Z0z X=true->Z06 Y00 O (gL T (s.i+1) s.op++X) 87 [.ptr 0 0,.int .i64 9]=some (.agg V.cells,gB T E++X):=λX hX=>by
    have h:=Z4Z p8 9 (Z02 s) X (hgs hR) (hgs hR) (by simp only[hE];exact λu hu=>hu) hX
    simp only[hE,hV]at h
    exact h
   clear p1 p2 p3 p4 p5 p6 p7 p8 p9 p10 p11 p12 p13 qt qf hgs hno hB hb hc hgb hkb hks fk hE hV
   obtain⟨y1,y2,y3,y4,y5,y6,y7⟩:=V
   generalize Z0r T s=t at *
   obtain⟨kd,tx,nm,ps⟩:=t
   refine Z0w Zd3 3 follows Z05 hO Y0j rfl ?_
   rw (occs:=.pos [1]) [Z0c h0]
   simp only[gL,LV,Tq.cells,St.cells,exA,Y01,Y02]at m1 m2 m3 gm g1 hx⊢
   repeat' ((conv=>whnf);first|(exact Or.inl rfl)|(refine Or.inr ?_)|refine exI hx ?_|refine exI (m1 _ rfl) ?_|refine exI (m2 _ rfl) ?_|refine exI (m3 _ rfl) ?_|refine exI (gm _ rfl) ?_|(refine exG (g1 _ rfl) (λhd=>?_) (λe1=>?_))|(with_reducible refine ixJ s.i rfl ?_ ?_;focus omega)|refine stp ?_|with_reducible apply Z01<;>intro h)
   all_goals (conv=>whnf)
   all_goals exact⟨[],M11,rfl,(by refine Z0G ?_ ?_ ?_<;>first|rfl|exact e1),rfl,rfl,.inl (Y03 rfl)⟩
  |false =>
  have m4:=qf _ ((fk _ rfl).trans hR)
  cases hI:isF T s kIf with
  |true =>
   have hB:Z3n T blk stm s=Zch T blk stm (Z02 s):=by
    unfold Z3n
    rw[hI,if_pos rfl]
   rw[hB]at hE hV
   have gm:=qt _ ((fk _ rfl).trans hI)
   have g1:∀X,Z08 Z0z X=true->Z06 Y00 O (gL T (s.i+1) s.op++X) 88 [.ptr 0 0]=some (.agg V.cells,gB T E++X):=λX hX=>by
    have h:=Z4Z p11 () (Z02 s) X (hgs hI) ⟨rfl,hI,hgs hI⟩ (by simp only[hE];exact λu hu=>hu) hX
    simp only[hE,hV]at h
    exact h
   clear p1 p2 p3 p4 p5 p6 p7 p8 p9 p10 p11 p12 p13 qt qf hgs hB hb hc hgb hkb hks fk hE hV
   obtain⟨y1,y2,y3,y4,y5,y6,y7⟩:=V
   generalize Z0r T s=t at *
   obtain⟨kd,tx,nm,ps⟩:=t
   refine Z0w Zd3 3 follows Z05 hO Y0j rfl ?_
   rw (occs:=.pos [1]) [Z0c h0]
   simp only[gL,LV,Tq.cells,St.cells,exA,Y01,Y02]at m1 m2 m3 m4 gm g1 hx⊢
   repeat' ((conv=>whnf);first|(exact Or.inl rfl)|(refine Or.inr ?_)|refine exI hx ?_|refine exI (m1 _ rfl) ?_|refine exI (m2 _ rfl) ?_|refine exI (m3 _ rfl) ?_|refine exI (m4 _ rfl) ?_|refine exI (gm _ rfl) ?_|(refine exG (g1 _ rfl) (λhd=>?_) (λe1=>?_))|(with_reducible refine ixJ s.i rfl ?_ ?_;focus omega)|refine stp ?_|with_reducible apply Z01<;>intro h)
   all_goals (conv=>whnf)
   all_goals exact⟨[],M11,rfl,(by refine Z0G ?_ ?_ ?_<;>first|rfl|exact e1),rfl,rfl,.inl (Y03 rfl)⟩
  |false =>
  have m5:=qf _ ((fk _ rfl).trans hI)
  cases hW:isF T s Z6E with
  |true =>
   have hB:Z3n T blk stm s=Zl2 T blk (Z02 s):=by
    unfold Z3n
    rw[hI,hW]
    simp
   rw[hB]at hE hV
   unfold Zl2 at hE hV
   simp only at hE hV
   have k1:=Z65 T (Z02 s)
   have k2:=hkb (Z28 T (Z02 s)).2
   rw[hE]at k2
   have hgw:=hgs hW
   have b0:=Z3L hgw.ok
   have i1:s.i+1<=(Z28 T (Z02 s)).2.i:=b0.on
   have o1:=λhe=>hgw.go b0 k1 he
   have gm:=qt _ ((fk _ rfl).trans hW)
   have g1:∀X,Z08 Z0z X=true->Z06 Y00 O (gL T (s.i+1) s.op++X) 89 [.ptr 0 0]=some (.agg (Z28 T (Z02 s)).1.cells,gB T (Z28 T (Z02 s)).2++X):=λX hX=>Zkp p9 hgw k2.x (X:=X) hX
   have g2:GOK T (Z28 T (Z02 s)).2->∀X,Z08 Z0z X=true->Z06 Y00 O (gL T (Z28 T (Z02 s)).2.i (Z28 T (Z02 s)).2.op++X) 59 [.ptr 0 0]=some (stA (blk (Z28 T (Z02 s)).2).1,gB T E++X):=λh X hX=>by
    have h:=Z4Z p10 () (Z28 T (Z02 s)).2 X h ⟨h,i1⟩ (by simp only[hE];exact λu hu=>hu) hX
    simp only[hE]at h
    exact h
   clear p1 p2 p3 p4 p5 p6 p7 p8 p9 p10 p11 p12 p13 qt qf hgs hB hb hc hgb hkb hks fk hE k1 k2 hgw b0 i1
   generalize Z28 T (Z02 s)=r at *
   obtain⟨⟨yo,yn,yt,yk⟩,s1⟩:=r
   simp only at hV g2 o1
   generalize (blk s1).1=tl at *
   subst hV
   refine MemXQ.conv (r:=.agg [.int .i64 11,.str [],.str [],.int .i64 0,exA [.mk yo yn yt yk],stA tl,.nslice]) ?_ (λ_ _ _ h=>Z8Y (λ_ h=>h) (λ_ h=>h) (λ_ h=>Z2o h) h)
   generalize Z0r T s=t at *
   obtain⟨kd,tx,nm,ps⟩:=t
   refine Z0w Zd3 3 follows Z05 hO Y0j rfl ?_
   rw (occs:=.pos [1]) [Z0c h0]
   simp only[gL,LV,Tq.cells,Ex.cells,stA,Y01,Y02]at m1 m2 m3 m4 m5 gm g1 g2 hx⊢
   repeat' ((conv=>whnf);first|(exact Or.inl rfl)|(refine Or.inr ?_)|refine exI hx ?_|refine exI (m1 _ rfl) ?_|refine exI (m2 _ rfl) ?_|refine exI (m3 _ rfl) ?_|refine exI (m4 _ rfl) ?_|refine exI (m5 _ rfl) ?_|refine exI (gm _ rfl) ?_|(refine exG (g1 _ rfl) (λhd=>?_) (λe1=>?_))|(refine exG (g2 (o1 e1) _ rfl) (λhd=>?_) (λe2=>?_))|(with_reducible refine ixJ s.i rfl ?_ ?_;focus omega)|refine stp ?_|with_reducible apply Z01<;>intro h)
   all_goals (conv=>whnf)
   all_goals exact⟨[11,12,13,14,15,16],M11,rfl,(by refine Z0G ?_ ?_ ?_<;>first|rfl|exact e2),rfl,rfl,.inr rfl⟩
  |false =>
  have m6:=qf _ ((fk _ rfl).trans hW)
  have hwb:Z1Q T s=false:=by
   unfold Z1Q
   rw[e1k,Bool.and_false]
  have hwF:Z0e T s=Z0p s 5 (Z0r T s).pos:=by unfold Z0e;rw[hwb];rfl
  have hEf:E.err=5/\E.at_=(Z0r T s).pos:=by
   have hB:(Z3n T blk stm s).2=Z03 T (Z3D T (Z0Z T s) (Z03 T (Z0e T s) [61])).2 [59]:=by
    unfold Z3n Z1w
    rw[hI,hW,hS,hF,hA,hR]
    simp
   have hk:Kr (Z0e T s) E:=by
    rw[<- hE,hB]
    exact (Z0s T _ _).trans ((Zb2 T _ _).trans (Z0s T _ _))
   have:=hk.st (by rw[hwF];exact Z1Y (by decide))
   rw[hwF]at this
   unfold Z0p at this
   rw[if_pos hg.er]at this
   exact this
  have qx:=λX K hX=>Z6N p13 (i:=s.i) (op:=s.op) (X:=X) (K:=K) (e:=5) hg (by decide) (λu hu=>by
   obtain⟨g1,g2⟩:=hu
   refine⟨by rw[hEf.1];decide,?_⟩
   rw[g2,hEf.1,hEf.2]
   unfold Z0p
   rw[if_pos hg.er]) rfl rfl hX
  clear p1 p2 p3 p4 p5 p6 p7 p8 p9 p10 p11 p12 p13 qt qf hgs hb hc hgb hkb hks fk hE hwF hwb hEf hV
  obtain⟨y1,y2,y3,y4,y5,y6,y7⟩:=V
  generalize Z0r T s=t at *
  obtain⟨kd,tx,nm,ps⟩:=t
  refine Z0w Zd3 3 follows Z05 hO Y0j rfl ?_
  rw (occs:=.pos [1]) [Z0c h0]
  simp only[gL,LV,gD,Tq.cells,Y01,Y02]at m1 m2 m3 m4 m5 m6 qx hx⊢
  repeat' ((conv=>whnf);first|(exact Or.inl rfl)|(refine Or.inr ?_)|refine exI hx ?_|refine exI (m1 _ rfl) ?_|refine exI (m2 _ rfl) ?_|refine exI (m3 _ rfl) ?_|refine exI (m4 _ rfl) ?_|refine exI (m5 _ rfl) ?_|refine exI (m6 _ rfl) ?_|(refine qx _ _ rfl ?_)|(with_reducible refine ixJ s.i rfl ?_ ?_;focus omega)|refine stp ?_|with_reducible apply Z01<;>intro h)
 have:=main _ rfl
 exact GX.of λ_=>this
end
section
variable {gl:Z0k}
theorem ZnE{T:List Tq}{blk:Ps->List St×Ps}{stm:Ps->St×Ps}{s:Ps}(he:s.err=0)(h5:(Z0r T s).kind=5):(Z3n T blk stm s).2.err=5/\(Z3n T blk stm s).2.at_=(Z0r T s).pos:=by
 have hno:∀w,isF T s w=false:=λw=>by
  unfold isF
  rw[h5];simp
 have hwF:Z0e T s=Z0p s 5 (Z0r T s).pos:=by
  unfold Z0e Z1Q
  rw[h5];simp
 have hB:(Z3n T blk stm s).2=Z03 T (Z3D T (Z0Z T s) (Z03 T (Z0e T s) [61])).2 [59]:=by
  unfold Z3n Z1w
  simp only[hno,Y0r,if_false]
 have hk:Kr (Z0e T s) (Z3n T blk stm s).2:=by
  rw[hB]
  exact (Z0s T _ _).trans ((Zb2 T _ _).trans (Z0s T _ _))
 have:=hk.st (by rw[hwF];exact Z1Y (by decide))
 rw[hwF]at this
 unfold Z0p at this
 rw[if_pos he]at this
 exact this
def ZsJ(gl:Z0k)(T:List Tq)(i0:Nat)(d:Nat):Prop:=∀s,GOK T s->i0<=s.i->GX gl T 88 [.ptr 0 0] s (.agg (Zch T (Z9M T (Z5R T d)) (Z5R T d) s).1.cells) (Zch T (Z9M T (Z5R T d)) (Z5R T d) s).2
theorem Z8D{T:List Tq}(hT:TqOK T):∀(d i0:Nat),T.length<=i0+d->ZqR gl T i0 (Z5R T d)/\Zpj gl T i0 (Z9M T (Z5R T d))/\ZsJ gl T i0 d
 |0,i0,hd=>⟨λs hs hi=>by have:=hs.ok.lt;omega,λs hs hi=>by have:=hs.ok.lt;omega,λs hs hi=>by have:=hs.ok.lt;omega⟩
 |d+1,i0,hd=>by
  have hgo:∀(d i0:Nat),T.length<=i0+d->∀s,PsOK T s->i0<=s.i->PsGo T s (Z5R T d s).2/\((Z5R T d s).2.err=0->s.i<(Z5R T d s).2.i):=λd i0 hd s hs hi=>((Zec (gl:=gl) d i0 hd) s hs hi).1
  have hgb:∀(d i0:Nat),T.length<=i0+d->∀s,PsOK T s->i0<=s.i->PsGo T s (Z9M T (Z5R T d) s).2:=λd i0 hd s hs hi=>Zke (λs h h2=>(hgo d i0 hd s h h2).1) hs hi
  have hS:ZqR gl T i0 (Z5R T (d+1)):=λs hs hi=>by
   obtain⟨h1,h2,h3⟩:=Z8D hT d (s.i+1) (by omega)
   exact Zhk hT hs (λt=>Z9L (Z34 T d) t) (Z34 T d) (hgb d (s.i+1) (by omega)) h2 (λhb hg=>h3 _ hg (Y0a _))
  have hB:Zpj gl T i0 (Z9M T (Z5R T (d+1))):=Zjm hT (Z34 T (d+1)) (hgo (d+1) i0 hd) (λs hs hi h5=>ZnE hs.er h5) hS
  refine⟨hS,hB,λs hs hi=>?_⟩
  refine Zhl hT (λt=>Z9L (Z34 T (d+1)) t) (Z34 T (d+1)) (hgb (d+1) i0 hd) hB (λt ht hti hb=>?_) hs hi
  have hgt:GOK T (Z02 t):=ht.go (Z0b ht.ok hb) (Z0q t) ht.er
  have e:Z5R T (d+1) t=Zch T (Z9M T (Z5R T d)) (Z5R T d) (Z02 t):=by
   show Z3n T _ _ t=_
   unfold Z3n
   rw[hb,if_pos rfl]
  rw[e]
  have h0:i0+1<=(Z02 t).i:=Nat.succ_le_succ hti
  exact (Z8D hT d (i0+1) (by omega)).2.2 _ hgt h0
theorem Zja{T:List Tq}(hT:TqOK T):ZqR gl T 0 (Z1D T):=(Z8D hT T.length 0 (by omega)).1
theorem Zm0{T:List Tq}(hT:TqOK T):Zpj gl T 0 (Z6a T):=(Z8D hT T.length 0 (by omega)).2.1
end
section
structure TvS (gl:Z0k) extends TvE gl where
 gS:Nat
 cS:List AV
 hS:St->Int -> σ -> Bool×σ
 bodyS:Z0m Y00 gS=true
 wkS:WkL (List.range k) cS cS
 okS:∀x rest d s m,lex.okS x->I d s (m+1)->Z1v Y00 gl gS ([.rp (x.cells++rest),.int .i64 d]++cS) (Mem s) (.bool (hS x d s).1) (Mem (hS x d s).2)
 downS:∀x d s m,I d s (m+1)->(hS x d s).1=true->I (d+1) (hS x d s).2 m
section
variable {σ : Type}
def Z1C(r:Bool×σ)(f : σ -> Bool×σ):Bool×σ:=if r.1=true then f r.2 else (false,r.2)
mutual
def goS(hE:Ex->Int -> σ -> Bool×σ)(hS:St->Int -> σ -> Bool×σ):St->Int -> σ -> Bool×σ
 | .mk k n l o x t e,d,s=>Z1C (hS (.mk k n l o x t e) d s) λs1=>Z1C (goL hE x (d+1) s1) λs2=>Z1C (goSL hE hS t (d+1) s2) λs3=>goSL hE hS e (d+1) s3
def goSL(hE:Ex->Int -> σ -> Bool×σ)(hS:St->Int -> σ -> Bool×σ):List St->Int -> σ -> Bool×σ
 |[],d,s=>(true,s)
 |x::l,d,s=>Z1C (goS hE hS x d s) λs1=>goSL hE hS l d s1
end
variable {hE:Ex->Int -> σ -> Bool×σ} {hS:St->Int -> σ -> Bool×σ}
theorem Zqj(x:St)(d:Int)(s : σ):goS hE hS x d s=Z1C (hS x d s) λs1=>Z1C (goL hE x.exprs (d+1) s1) λs2=>Z1C (goSL hE hS x.thn (d+1) s2) λs3=>goSL hE hS x.els (d+1) s3:=by
 obtain⟨k,n,l,o,x,t,e⟩:=x
 simp only[goS,St.exprs,St.thn,St.els]
theorem Zje:∀(l:List St)(d:Int)(t : σ)(i:Nat)(hi:i<l.length),(goSL hE hS (l.take i) d t).1=true->goSL hE hS (l.take (i+1)) d t=goS hE hS l[i] d (goSL hE hS (l.take i) d t).2
 |e::l,d,t,0,_,_=>by
  simp only[Y0u,Y0B,goSL,List.getElem_cons_zero,Z1C]
  split
  ·rename_i h2;rw[<- h2]
  ·rename_i h2;rw[<- Bool.eq_false_iff.2 h2]
 |e::l,d,t,i+1,hi,ht=>by
  simp only[Y0B,goSL,List.getElem_cons_succ,Z1C]at ht⊢
  split
  · rename_i h2
    rw[if_pos h2]at ht
    exact Zje l d _ i (by simpa using hi) ht
  ·rename_i h2;rw[if_neg h2]at ht;cases ht
theorem Zd4:∀(l:List St)(d:Int)(t : σ)(i:Nat),(goSL hE hS (l.take i) d t).1=false->goSL hE hS l d t=goSL hE hS (l.take i) d t
 |[],d,t,i,hf=>by simp
 |e::l,d,t,0,hf=>by simp only[Y0u,goSL]at hf;cases hf
 |e::l,d,t,i+1,hf=>by
  simp only[Y0B,goSL,Z1C]at hf⊢
  split
  · rename_i h2
    rw[if_pos h2]at hf
    exact Zd4 l d _ i hf
  ·rfl
theorem Z5f{r:Bool×σ}{f : σ -> Bool×σ}(h:(Z1C r f).1=true):r.1=true/\Z1C r f=f r.2:=by
 unfold Z1C at h⊢
 split at h
 ·rename_i h2;exact⟨h2,by rw[if_pos h2]⟩
 ·cases h
end
section
variable {gl:Z0k} (V:TvS gl)
def TvS.G:AV:=.func (.func V.gS) [] V.cS
mutual
theorem TvS.keepS:∀(x:St)(d:Int)(s:V.σ)(m:Nat),V.I d s (Z12 x+m)->(goS V.hE V.hS x d s).1=true->V.I d (goS V.hE V.hS x d s).2 m
 | .mk k n l o x t e,d,s,m,hI,ht=>by
  simp only[goS,Z12]at hI ht⊢
  obtain⟨h1,e1⟩:=Z5f ht
  rw[e1]at ht⊢
  obtain⟨h2,e2⟩:=Z5f ht
  rw[e2]at ht⊢
  obtain⟨h3,e3⟩:=Z5f ht
  rw[e3]at ht⊢
  have i1:=V.downS _ d s (sizeL x+(sizeSL t+(sizeSL e+m))) (by rw[show 1+sizeL x+sizeSL t+sizeSL e+m=sizeL x+(sizeSL t+(sizeSL e+m))+1 from by omega]at hI;exact hI) h1
  have i2:=V.toTvE.keepL x (d+1) _ _ i1 h2
  have i3:=TvS.keepSL t (d+1) _ _ i2 h3
  exact V.up _ _ _ (V.bnd _ _ _ hI).1 (TvS.keepSL e (d+1) _ m i3 ht)
theorem TvS.keepSL:∀(l:List St)(d:Int)(s:V.σ)(m:Nat),V.I d s (sizeSL l+m)->(goSL V.hE V.hS l d s).1=true->V.I d (goSL V.hE V.hS l d s).2 m
 |[],d,s,m,hI,ht=>by simp only[goSL,sizeSL,Nat.zero_add]at hI⊢;exact hI
 |x::l,d,s,m,hI,ht=>by
  simp only[goSL,sizeSL]at hI ht⊢
  obtain⟨h1,e1⟩:=Z5f ht
  rw[e1]at ht⊢
  exact TvS.keepSL l d _ m (TvS.keepS x d s (sizeSL l+m) (by rw[<- Nat.add_assoc];exact hI) h1) ht
end
theorem TvS.stmts : ∀ (n : Nat) (l : List St) (d : Int) (s : V.σ) (m : Nat), sizeSL l <= n -> okSL l -> l.length <= 9223372036854775807 -> V.I d s (sizeSL l + m) ->
  Z1v Y00 gl 64 [stA l,.int .i64 d,V.toTvE.F,V.G] (V.Mem s) (.bool (goSL V.hE V.hS l d s).1) (V.Mem (goSL V.hE V.hS l d s).2)
 |n,l,d,s,m,hn,hok,hl,hI=>by
  have hF : ∃ O, OrcSound Y00 gl O /\
    (∀(x:List St)(t:V.σ)(q:Nat),sizeSL x<n->okSL x->x.length<=9223372036854775807->V.I (d+1) t (sizeSL x+q)->Z06 Y00 O (V.Mem t) 64 [stA x,.int .i64 (d+1),V.toTvE.F,V.G]=some (.bool (goSL V.hE V.hS x (d+1) t).1,V.Mem (goSL V.hE V.hS x (d+1) t).2)) /\
    (∀(x:List Ex)(t:V.σ)(q:Nat),okL x->x.length<=9223372036854775807->V.I (d+1) t (sizeL x+q)->Z06 Y00 O (V.Mem t) 78 [exA x,.int .i64 (d+1),V.toTvE.F]=some (.bool (goL V.hE x (d+1) t).1,V.Mem (goL V.hE x (d+1) t).2)) /\
    (∀(i:Nat)(hi:i<l.length)(t:V.σ)(q:Nat),V.I d t (q+1)->Z06 Y00 O (V.Mem t) V.gS ([.rp ((stC l).drop (i*7)),.int .i64 d]++V.cS)=some (.bool (V.hS l[i] d t).1,V.Mem (V.hS l[i] d t).2)):=by
   have s1:=Z2u (P:=Y00) (gl:=gl) (I:=List St×V.σ×Nat) (G:=λp=>sizeSL p.1<n/\okSL p.1/\p.1.length<=9223372036854775807/\V.I (d+1) p.2.1 (sizeSL p.1+p.2.2)) (fF:=λ_=>64) (fA:=λp=>[stA p.1,.int .i64 (d+1),V.toTvE.F,V.G]) (fH:=λp=>V.Mem p.2.1) (fR:=λp=>.bool (goSL V.hE V.hS p.1 (d+1) p.2.1).1) (fO:=λp=>V.Mem (goSL V.hE V.hS p.1 (d+1) p.2.1).2) λp hp=>by
    obtain⟨h0,h1,h2,h3⟩:=hp
    match n,hn,h0 with
    |n+1,hn,h0=>exact TvS.stmts n _ (d+1) p.2.1 p.2.2 (by omega) h1 h2 h3
   have s2:=Z2u (P:=Y00) (gl:=gl) (I:=List Ex×V.σ×Nat) (G:=λp=>okL p.1/\p.1.length<=9223372036854775807/\V.I (d+1) p.2.1 (sizeL p.1+p.2.2)) (fF:=λ_=>78) (fA:=λp=>[exA p.1,.int .i64 (d+1),V.toTvE.F]) (fH:=λp=>V.Mem p.2.1) (fR:=λp=>.bool (goL V.hE p.1 (d+1) p.2.1).1) (fO:=λp=>V.Mem (goL V.hE p.1 (d+1) p.2.1).2) λp hp =>
    V.toTvE.exprs follows _ p.1 (d+1) p.2.1 p.2.2 (Y0a _) hp.1 hp.2.1 hp.2.2
   have s3:=Z2u (P:=Y00) (gl:=gl) (I:=Nat×V.σ×Nat) (G:=λp=>p.1<l.length/\V.I d p.2.1 (p.2.2+1)) (fF:=λ_=>V.gS) (fA:=λp=>[.rp ((stC l).drop (p.1*7)),.int .i64 d]++V.cS) (fH:=λp=>V.Mem p.2.1) (fR:=λp=>.bool (V.hS (l.getD p.1 default) d p.2.1).1) (fO:=λp=>V.Mem (V.hS (l.getD p.1 default) d p.2.1).2) λp hp=>by
    obtain⟨hp,h1⟩:=hp
    have hg:l.getD p.1 default=l[p.1]:=by simp[Y0C,hp]
    have hke:=Z6x hok _ (Z0N hp)
    simp only[hg]
    rw[Z4t l p.1 hp]
    exact V.okS _ _ _ _ _ hke h1
   refine⟨_,Z1E s1 (Z1E s2 s3),λx t q h0 h1 h2 h3=>?_,λx t q h0 h1 h2=>?_,λi hi t q h1=>?_⟩
   · exact callOr1 (by kernel_rfl) (Zdy (P := Y00) (fun p q _ _ _ ha hh => by
      have e2:=V.inj _ _ hh
      simp only[List.cons.injEq,and_true,true_and]at ha
      rw[Z7a ha,e2];exact⟨rfl,rfl⟩) (by kernel_rfl) (x,t,q) ⟨h0,h1,h2,h3⟩ rfl rfl rfl)
   · refine Z54 (by kernel_rfl) (Z37 λp _ e _=>absurd e (by decide)) ?_
     exact callOr1 (by kernel_rfl) (Zdy (P:=Y00) (λp q _ _ _ ha hh=>by
      have e2:=V.inj _ _ hh
      simp only[List.cons.injEq,and_true,true_and]at ha
      rw[Z9F ha,e2];exact⟨rfl,rfl⟩) (by kernel_rfl) (x,t,q) ⟨h0,h1,h2⟩ rfl rfl rfl)
   · have hg:l.getD i default=l[i]:=by simp[Y0C,hi]
     refine Z54 V.bodyS (Z37 λp _ _ ha=>?_) ?_
     · have:=congrArg (λa=>a.head?) ha
       simp[stA]at this
     refine Z54 V.bodyS (Z37 λp _ _ ha=>?_) ?_
     · have:=congrArg (λa=>a.head?) ha
       simp[exA]at this
     · have := Zdy (P := Y00) (I := Nat × V.σ × Nat) (G := fun p => p.1 < l.length /\ V.I d p.2.1 (p.2.2 + 1)) (fF := fun _ => V.gS) (fA := fun p => [.rp ((stC l).drop (p.1 * 7)), .int .i64 d] ++ V.cS) (fH := fun p => V.Mem p.2.1) (fR := fun p => .bool (V.hS (l.getD p.1 default) d p.2.1).1) (fO := fun p => V.Mem (V.hS (l.getD p.1 default) d p.2.1).2)
        (fun p q hp hq _ ha hh => by
          have e2:=V.inj _ _ hh
          simp only[Y01,Y02,List.cons.injEq,AV.rp.injEq,true_and,and_true]at ha
          have:=congrArg List.length ha
          simp only[Y0s,Z4F]at this
          have e:p.1=q.1:=by have:=hp.1;have:=hq.1;omega
          rw[e,e2];exact⟨rfl,rfl⟩) (g:=V.gS) (args:=[.rp ((stC l).drop (i*7)),.int .i64 d]++V.cS) (H:=V.Mem t) V.bodyS (i,t,q) ⟨hi,h1⟩ rfl rfl rfl
       simp only[hg]at this
       exact this
  obtain⟨O,hO,q3,q2,q1⟩:=hF
  have hbd:=V.bnd _ _ _ hI
  have w1:IntKind.i64.wrap (d+1)=d+1:=Z8b (by omega) (by omega)
  simp only[stA,exA,TvE.F,TvS.G]at q2 q3⊢
  refine ZaB (k:=V.k) follows Z05 hO (V.len s) Tryz.func64 rfl (Z83 _ _) ?_
  repeat' ((conv=>whnf);(first|refine stp ?_|with_reducible apply Z01<;>intro h))
  conv=>whnf
  refine⟨Nat,(λi=>i<=l.length/\(goSL V.hE V.hS (l.take i) d s).1=true),(λi=>[(0,.rs l.length 7 (stC l)),(1,.int .i64 d),(2,.func (.func V.gE) [] V.cE),(3,.func (.func V.gS) [] V.cS),(12,.int .i64 l.length),(13,.int .i64 i)]),(λi=>V.Mem (goSL V.hE V.hS (l.take i) d s).2),(λi=>l.length-i),⟨0,⟨Y0n _,by simp only[Y0u,goSL]⟩,?_⟩,?_⟩
  · simp only[Y0u,goSL]
    refine FgLK.same rfl ?_ (V.same _)
    refine Y0b (Y03 rfl) ?_
    refine Y0b (Y03 rfl) ?_
    refine Y0b (Wk.func trivial V.wkE) ?_
    refine Y0b (Wk.func trivial V.wkS) ?_
    refine Y0b (Y06 rfl) ?_
    exact⟨Y06 rfl,trivial⟩
  rintro i ⟨hi,hall⟩
  dsimp only
  conv=>whnf
  rw[Z0u]
  by_cases hlt:i<l.length
  · have e1:decide ((i:Int)<(l.length:Int))=true:=by simpa using hlt
    have hat:=Zje (hE:=V.hE) (hS:=V.hS) l d s i hlt hall
    have hI2:V.I d (goSL V.hE V.hS (l.take i) d s).2 (sizeSL (l.drop i)+m):=V.keepSL (l.take i) d s (sizeSL (l.drop i)+m) (by
     have:=Z5n l i hlt
     have e:sizeSL (l.drop i)=Z12 l[i]+sizeSL (l.drop (i+1)):=by rw[Y0v hlt];simp only[sizeSL]
     have e2:sizeSL (l.take i)+(sizeSL (l.drop i)+m)=sizeSL l+m:=by omega
     rw[e2];exact hI) hall
    generalize (goSL V.hE V.hS (l.take i) d s).2=t at *
    have esz:sizeSL (l.drop i)+m=(sizeL l[i].exprs+(sizeSL l[i].thn+(sizeSL l[i].els+(sizeSL (l.drop (i+1))+m))))+1:=by
     rw[Y0v hlt];simp only[sizeSL];have:=Z5k l[i];omega
    rw[esz]at hI2
    have q1':=q1 i hlt t _ hI2
    have hd2:=V.downS l[i] d t _ hI2
    have hx4:tk 1 (((stC l).drop (i*7)).drop 4)=some [exA l[i].exprs]:=by rw[Z4t l i hlt];exact Zk6 _ _
    have hx5:tk 1 (((stC l).drop (i*7)).drop 5)=some [stA l[i].thn]:=by rw[Z4t l i hlt];exact Zk7 _ _
    have hx6:tk 1 (((stC l).drop (i*7)).drop 6)=some [stA l[i].els]:=by rw[Z4t l i hlt];exact Zk8 _ _
    obtain⟨_,_,k1,k2,k3,k4,k5,k6⟩:=Z6w (Z6x hok _ (Z0N hlt))
    have hsz:=Z5l _ _ (Z0N hlt)
    have hse:=Z5k l[i]
    have qx:=λt q=>q2 l[i].exprs t q k4 k1
    have qt:=λt q=>q3 l[i].thn t q (by omega) k5 k2
    have qe:=λt q=>q3 l[i].els t q (by omega) k6 k3
    have kx:=λs m=>V.toTvE.keepL l[i].exprs (d+1) s m
    have kt:=λs m=>V.keepSL l[i].thn (d+1) s m
    rw[Zqj]at hat
    have hst:=Zd4 (hE:=V.hE) (hS:=V.hS) l d s (i+1)
    clear q1 q2 q3 hse hsz k1 k2 k3 k4 k5 k6
    generalize l[i]=e at *
    generalize hr:V.hS e d t=r at *
    obtain⟨b,t1⟩:=r
    simp only[exA,stA]at hx4 hx5 hx6 qx qt qe
    dsimp only[Z1C]at *
    cases b with
    |false =>
     simp only[Y0r,if_false]at hat
     rw[hat]at hst
     rw[hst rfl]
     repeat' ((conv=>whnf);first|(refine exI q1' ?_)|(rw[Z0u])|(with_reducible refine ixJ i rfl ?_ ?_;focus omega)|refine stp ?_|with_reducible apply Z01<;>intro h)
     all_goals (conv=>whnf)
     all_goals (exact V.toTvE.fin s t1 false)
    |true =>
     simp only[if_true]at hat
     have i1:=hd2 rfl
     have qx':=qx t1 _ i1
     have kx':=kx t1 _ i1
     generalize hg:goL V.hE e.exprs (d+1) t1=g at *
     obtain⟨b2,t2⟩:=g
     dsimp only at *
     cases b2 with
     |false =>
      simp only[Y0r,if_false]at hat
      rw[hat]at hst
      rw[hst rfl]
      repeat' ((conv=>whnf);first|(refine exI q1' ?_)|(refine exI qx' ?_)|refine exI hx4 ?_|(rw[Z0u])|(with_reducible refine exW w1 ?_)|(with_reducible refine ixJ i rfl ?_ ?_;focus omega)|refine stp ?_|with_reducible apply Z01<;>intro h)
      all_goals (conv=>whnf)
      all_goals (exact V.toTvE.fin s t2 false)
     |true =>
      simp only[if_true]at hat
      have i2:=kx' rfl
      have qt':=qt t2 _ i2
      have kt':=kt t2 _ i2
      generalize hg2:goSL V.hE V.hS e.thn (d+1) t2=g2 at *
      obtain⟨b3,t3⟩:=g2
      dsimp only at *
      cases b3 with
      |false =>
       simp only[Y0r,if_false]at hat
       rw[hat]at hst
       rw[hst rfl]
       repeat' ((conv=>whnf);first|(refine exI q1' ?_)|(refine exI qx' ?_)|(refine exI qt' ?_)|refine exI hx4 ?_|refine exI hx5 ?_|(rw[Z0u])|(with_reducible refine exW w1 ?_)|(with_reducible refine ixJ i rfl ?_ ?_;focus omega)|refine stp ?_|with_reducible apply Z01<;>intro h)
       all_goals (conv=>whnf)
       all_goals (exact V.toTvE.fin s t3 false)
      |true =>
       simp only[if_true]at hat
       have i3:=kt' rfl
       have qe':=qe t3 _ i3
       generalize hg3:goSL V.hE V.hS e.els (d+1) t3=g3 at *
       obtain⟨b4,t4⟩:=g3
       dsimp only at *
       cases b4 with
       |false =>
        rw[hat]at hst
        rw[hst rfl]
        repeat' ((conv=>whnf);first|(refine exI q1' ?_)|(refine exI qx' ?_)|(refine exI qt' ?_)|(refine exI qe' ?_)|refine exI hx4 ?_|refine exI hx5 ?_|refine exI hx6 ?_|(rw[Z0u])|(with_reducible refine exW w1 ?_)|(with_reducible refine ixJ i rfl ?_ ?_;focus omega)|refine stp ?_|with_reducible apply Z01<;>intro h)
        all_goals (conv=>whnf)
        all_goals (exact V.toTvE.fin s t4 false)
       |true =>
        repeat' ((conv=>whnf);first|(refine exI q1' ?_)|(refine exI qx' ?_)|(refine exI qt' ?_)|(refine exI qe' ?_)|refine exI hx4 ?_|refine exI hx5 ?_|refine exI hx6 ?_|(rw[Z0u])|(with_reducible refine exW w1 ?_)|(with_reducible refine ixJ i rfl ?_ ?_;focus omega)|refine stp ?_|with_reducible apply Z01<;>intro h)
        all_goals (conv=>whnf)
        refine⟨i+1,⟨hlt,by rw[hat]⟩,by show l.length-(i+1)<l.length-i;omega,?_⟩
        rw[hat]
        refine FgLK.same rfl ?_ (V.same _)
        refine Y0b (Y03 rfl) ?_
        refine Y0b (Y03 rfl) ?_
        refine Y0b (Wk.func trivial V.wkE) ?_
        refine Y0b (Wk.func trivial V.wkS) ?_
        refine Y0b (Y06 rfl) ?_
        exact⟨Y06 rfl,trivial⟩
  · have e1:decide ((i:Int)<(l.length:Int))=false:=by simpa using hlt
    have hi2:i=l.length:=by have:=hi;omega
    subst hi2
    rw[Y0D]at hall⊢
    rw[hall]
    generalize (goSL V.hE V.hS l d s).2=t at *
    repeat' ((conv=>whnf);first|(rw[Z0u])|refine stp ?_|with_reducible apply Z01<;>intro h)
    all_goals (conv=>whnf)
    all_goals (exact V.toTvE.fin s t true)
end
end
section
variable {gl:Z0k}
def Z0H:List (List St)->Nat
 |[]=>0
 |l::t=>sizeSL l+Z0H t
def ZhI:List (List St)->Prop
 |[]=>True
 |l::t=>okSL l/\l.length<=9223372036854775807/\ZhI t
theorem Z5q:∀{t:List (List St)},ZhI t->∀l∈t,okSL l/\l.length<=9223372036854775807
 |x::t,h,l,hl=>by
  rcases List.mem_cons.1 hl with rfl|hl
  ·exact⟨h.1,h.2.1⟩
  ·exact Z5q h.2.2 l hl
theorem th1(t:List (List St))(i:Nat)(h:i<t.length):tk 1 ((t.map stA).drop (i*1))=some [stA t[i]]:=Zba stA t i h (by omega)
structure Dc where
 name:List UInt8
 plain:Bool
 val:Int
def Dc.cells(d:Dc):List AV:=[.str d.name,.bool d.plain,.int .i64 d.val]
def dcC:List Dc->List AV
 |[]=>[]
 |d::l=>d.cells++dcC l
theorem Zmo(d:Dc)(l:List Dc)(i:Nat):(dcC (d::l)).drop ((i+1)*3)=(dcC l).drop (i*3):=by
 have h:(i+1)*3=3+i*3:=by omega
 rw[h,<- Y0w]
 have h2:(dcC (d::l)).drop 3=dcC l:=rfl
 rw[h2]
theorem Zgp:∀(l:List Dc)(i:Nat)(h:i<l.length),(dcC l).drop (i*3)=l[i].cells++dcC (l.drop (i+1))
 |d::l,0,h=>by simp only[Nat.zero_mul,List.drop_zero,dcC,List.getElem_cons_zero,Y0E]
 |d::l,i+1,h=>by rw[Zmo,Zgp l i (by simpa using h)];simp only[List.getElem_cons_succ,Y0E]
theorem dc3(l:List Dc)(i:Nat)(h:i<l.length):tk 3 ((dcC l).drop (i*3))=some l[i].cells:=by
 rw[Zgp l i h];rfl
structure Pr where
 decls:List Dc
 threads:List (List St)
def Pr.av(p:Pr):AV:=.agg [.rs p.decls.length 3 (dcC p.decls),.rs p.threads.length 1 (p.threads.map stA)]
def okD(l:List Dc):Prop:=l.length<=9223372036854775807/\∀d∈l,d.name.length<=9223372036854775807
def okP(p:Pr):Prop:=okD p.decls/\ZhI p.threads/\p.threads.length<=9223372036854775807
theorem Z3T:∀(t:List (List St))(l:List St),l∈t->sizeSL l<=Z0H t
 |e::t,l,h=>by
  simp only[Z0H]
  rcases List.mem_cons.1 h with rfl|h
  ·omega
  ·have:=Z3T t l h;omega
end
section
variable {gl:Z0k}
def Z5B(T:List Tq)(pl:Bool)(s:Ps):Dc×Ps :=
 if isF T (Z0e T s) [61]=true then
  (if (Z0r T (Z02 (Z0e T s))).kind=3 then (⟨Z0Z T s,pl,(Z0r T (Z02 (Z0e T s))).num⟩,Z02 (Z02 (Z0e T s)))
   else (⟨Z0Z T s,pl,0⟩,Z0p (Z02 (Z0e T s)) 5 (Z0r T (Z02 (Z0e T s))).pos))
 else (⟨Z0Z T s,pl,0⟩,Z0e T s)
def Z3N(T:List Tq)(pl:Bool):Nat->Ps->List Dc×Ps
 |0,s=>([],s)
 |k+1,s=>if isF T (Z5B T pl s).2 [44]=true then ((Z5B T pl s).1::(Z3N T pl k (Z02 (Z5B T pl s).2)).1,(Z3N T pl k (Z02 (Z5B T pl s).2)).2) else ([(Z5B T pl s).1],(Z5B T pl s).2)
def Z0E(T:List Tq)(pl:Bool)(s:Ps):List Dc×Ps:=((Z3N T pl (T.length+1) s).1,Z03 T (Z3N T pl (T.length+1) s).2 [59])
theorem ZmT{T:List Tq}{s:Ps}(hs:PsOK T s)(h:(Z0r T s).kind=3):PsGo T s (Z02 s):=by
 have hk:(Z0r T s).kind≠5:=by omega
 rw[Z0t hs.lt]at hk
 have hlo:=hs.lo
 exact⟨⟨hs.last _ hs.lt hk,hs.few,hs.last,by show -((s.i+1:Nat):Int)<=s.op;omega,hs.hi⟩,Nat.le_succ _,by show s.op+(s.i:Int)<=s.op+((s.i+1:Nat):Int);omega⟩
theorem ZeX{T:List Tq}(pl:Bool){s:Ps}(hs:PsOK T s):PsGo T s (Z5B T pl s).2:=by
 have h1:=Z5d hs
 unfold Z5B
 split
 · rename_i h
   have h2:=Z0b h1.ok h
   split
   · rename_i h3
     exact h1.trans (h2.trans (ZmT h2.ok h3))
   ·exact h1.trans (h2.trans (Z5z h2.ok _ _))
 ·exact h1
theorem ZjZ{T:List Tq}(pl:Bool):∀(k:Nat){s:Ps},PsOK T s->PsGo T s (Z3N T pl k s).2
 |0,s,h=>⟨h,Y0a _,Int.le_refl _⟩
 |k+1,s,h=>by
  have h1:=ZeX pl h
  unfold Z3N
  split
  · rename_i h2
    have h3:=Z0b h1.ok h2
    exact h1.trans (h3.trans (ZjZ pl k h3.ok))
  ·exact h1
theorem Z6Q{T:List Tq}(pl:Bool){s:Ps}(hs:PsOK T s):PsGo T s (Z0E T pl s).2:=by
 have h1:=ZjZ pl (T.length+1) hs
 exact h1.trans (Z0F h1.ok _)
theorem Z0h:∀l:List Dc,(dcC l).all Z8j=true
 |[]=>rfl
 |d::l=>by simp only[dcC,Dc.cells,List.all_append,Z0h l,Bool.and_true];rfl
theorem Z1T:∀l:List Dc,(dcC l).length=l.length*3
 |[]=>rfl
 |d::l=>by simp only[dcC,Y0k,Z1T l,Y05];simp[Dc.cells];omega
theorem ZbV:∀a b:List Dc,dcC (a++b)=dcC a++dcC b
 |[],b=>rfl
 |e::a,b=>by simp only[dcC,Y01,ZbV a b,Y0x]
theorem Z52(l:List Dc)(n:List UInt8)(p:Bool)(v:Int):dcC l++[.str n,.bool p,.int .i64 v]=dcC (l++[⟨n,p,v⟩]):=by rw[ZbV];rfl
def dcA(l:List Dc):AV:=.rs l.length 3 (dcC l)
def dcN:List Dc->AV
 |[]=>.nslice
 |e::l=>dcA (e::l)
theorem Zk1{sn:Z0o}{ι : Z0n}{v:Value}:∀{l:List Dc},VR sn ι (dcN l) v->VR sn ι (dcA l) v
 |[],h=>Z2o h
 |_::_,h=>h
end
section
variable {gl:Z0k}
def Z4l(n:Int):Bool:=n==32 || n==9 || n==10 || n==13
theorem ZbY(n:Int):ValOK Y00 gl 30 [.int .u8 n] (.bool (Z4l n)):=by
 refine Z0v follows Z05 Z0g Tryz.func30 rfl ?_
 repeat' ((conv=>whnf);first|refine stp ?_|with_reducible apply Z01<;>intro h)
 all_goals (try simp_all[Z0Y,Z4l])
def skip:Bool->List UInt8->Nat
 |_,[]=>0
 |true,c::s=>if c=10 then skip false s+1 else skip true s+1
 |false,c::s=>if Z4l c.toNat then skip false s+1 else if c=47/\s.head? = some 47 then skip true s+1 else 0
theorem Zp3:Z4l ((10:UInt8).toNat:Int)=true:=by decide
theorem Zbi:∀s,skip true s=Z0d (· != 10) s+skip false (s.drop (Z0d (· != 10) s))
 |[]=>by simp[skip,Z0d]
 |c::s=>by
  by_cases hc:c=10
  · subst hc
    rw[Z1r s (by decide)];have:=Zp3;simp[skip]at *;simp[this]
  · have h1 : ((c.toNat : Int) != 10) = true := by
     have:c.toNat≠10:=λe=>hc (by apply UInt8.toNat_inj.1;rw[e];rfl)
     simp;omega
    rw[Z1i s h1];simp only[skip,hc,if_false,Y0E];rw[Zbi s];omega
theorem Zaf(p:Int->Bool):∀s:List UInt8,Z0d p (s.drop (Z0d p s))=0
 |[]=>by simp[Z0d]
 |c::s=>by
  cases hc:p c.toNat with
  |true=>rw[Z1i s hc];simpa using Zaf p s
  |false=>rw[Z1r s hc];simp[Z1r s hc]
def Z2U(l:List UInt8):Nat:=l.foldl (λn c=>n*10+(c.toNat-48)) 0
theorem Z4A(l:List UInt8)(k:Nat)(h:k<l.length):Z2U (l.take (k+1))=Z2U (l.take k)*10+(l[k].toNat-48):=by
 unfold Z2U
 rw[List.take_succ_eq_append_getElem h,List.foldl_append];rfl
theorem Zct(l:List UInt8):∀k,k<=l.length->∀j,j<=k->Z2U (l.take j)<=Z2U (l.take k)
 | 0, _, j, hj => by have : j = 0 := by omega
                     subst this;exact Y0a _
 |k+1,hk,j,hj=>by
  by_cases e:j=k+1
  ·subst e;exact Y0a _
  · have h1:=Zct l k (by omega) j (by omega)
    have h2:=Z4A l k (by omega)
    omega
theorem ZpI(n:Int):IntKind.u64.wrap n=n % 18446744073709551616:=by rw[show (18446744073709551616:Int)=2 ^ 64 from rfl];simp[IntKind.wrap,IntKind.signed,IntKind.bits]
def Z0i:List UInt8->Nat
 |[]=>0
 |[c]=>if [124,38,61,33,60,43,45,42,94,40,41,123,125,44,59].contains c then 1 else 0
 |c::d::_=>if (d=c/\(c=124\/c=38\/c=61))\/(d=61/\(c=33\/c=60)) then 2 else if [124,38,61,33,60,43,45,42,94,40,41,123,125,44,59].contains c then 1 else 0
def Znb(l:List UInt8):Bool:=!l.isEmpty&&decide (l.length<=9223372036854775807)&&l.all λc=>Z0W c.toNat
theorem ZbR{l:List UInt8}(h:Znb l=true):l≠[]/\l.length<=9223372036854775807/\∀c∈l,Z0W c.toNat=true:=by
 simp only[Znb,Y0y,decide_eq_true_eq,List.all_eq_true]at h
 exact⟨λe=>by subst e;simp at h,h.1.2,h.2⟩
def Z1R(s:List UInt8):Nat×Nat :=
 let n:=Z0d Z0W s
 if n=0\/(1<n/\s.head? = some 48)\/(match s[n]? with|some c=>Z4S c.toNat || c==95|none=>false)=true\/¬Z2U (s.take n)<9223372036854775808 then (0,0) else (n,Z2U (s.take n))
theorem Zdp{s:List UInt8}(hs:s.length<=9223372036854775807)(h:0<Z0d Z0W s):Znb (s.take (Z0d Z0W s))=true:=by
 have hl:=Z4f Z0W s
 have ht:s.take (Z0d Z0W s)=s.takeWhile λc=>Z0W c.toNat:=by
  unfold Z0d;exact (List.prefix_iff_eq_take.1 (List.takeWhile_prefix _)).symm
 simp only[Znb,Y0y,decide_eq_true_eq]
 refine⟨⟨?_,?_⟩,?_⟩
 · cases e:s.take (Z0d Z0W s) with
   |nil =>
    have:=congrArg List.length e
    rw[List.length_take]at this;simp only[Y0c]at this;omega
   |cons a b=>rfl
 ·simp;omega
 ·rw[ht];simp[List.all_takeWhile]
structure Tk where
 kind:Nat
 text:List UInt8
 num:Nat
 pos:Nat
def Tk.cells(t:Tk):List AV:=[.int .i64 t.kind,.str t.text,.int .i64 t.num,.int .i64 t.pos]
def Zcg:List Tk->List AV
 |[]=>[]
 |t::l=>t.cells++Zcg l
def Z4c(s:List UInt8):Option (Nat×Nat×Nat) :=
 if 0<Z0j s then some (if keysL.contains (s.take (Z0j s)) then 2 else 1,Z0j s,0)
 else if 0<(Z1R s).1 then some (3,(Z1R s).1,(Z1R s).2)
 else if 0<Z0i s then some (4,Z0i s,0) else none
def Z9Y:Nat->Nat->List UInt8->Nat ⊕ List Tk
 |0,_,_=>.inr []
 |n+1,pos,s=>if s=[] then .inr [] else match Z4c s with
  |none=>.inl pos
  |some (kind,len,num)=>match Z9Y n (pos+len+skip false (s.drop len)) (s.drop (len+skip false (s.drop len))) with
   | .inl e=>.inl e
   | .inr l=>.inr (⟨kind,s.take len,num,pos⟩::l)
def Z6D(s:List UInt8):Nat ⊕ List Tk:=Z9Y (s.length+1) (skip false s) (s.drop (skip false s))
def Z7q(acc:List Tk):Nat ⊕ List Tk->Nat ⊕ List Tk
 | .inl e=>.inl e
 | .inr l=>.inr (acc++l)
def Zck(s:List UInt8):AV:=if 65536<s.length then .tuple [.nslice,.agg [.int .i64 3,.int .i64 0]] else match Z6D s with
 | .inl e=>.tuple [.nslice,.agg [.int .i64 4,.int .i64 e]]
 | .inr l=>.tuple [.rs (l.length+1) 4 (Zcg (l++[⟨5,[],0,s.length⟩])),.agg [.int .i64 0,.int .i64 0]]
theorem Z4I:∀(b:Bool)(s:List UInt8),skip b s<=s.length
 |_,[]=>by simp[skip]
 |true,c::s=>by
  have h1:=Z4I false s
  have h2:=Z4I true s
  simp only[skip,Y05];split<;>omega
 |false,c::s=>by
  have h1:=Z4I false s
  have h2:=Z4I true s
  simp only[skip,Y05];split
  ·omega
  ·split<;>omega
theorem Zd1(x:Nat ⊕ List Tk):Z7q [] x=x:=by cases x<;>rfl
theorem Zfe(s:List UInt8):Z0j s<=s.length:=by
 cases s with
 |nil=>simp[Z0j]
 |cons c s=>simp only[Z0j];split;exact Z4f _ _;omega
theorem Zhi{p:Prop}[Decidable p]{a b:Nat×Nat}{m:Nat}(h1:a.1<=m)(h2:b.1<=m):(if p then a else b).1<=m:=by split<;>assumption
theorem ZiL(s:List UInt8):(Z1R s).1<=s.length:=by
 unfold Z1R;exact Zhi (Y0n _) (Z4f _ _)
theorem Zfz(s:List UInt8):Z0i s<=s.length:=by
 match s with
 |[]=>simp[Z0i]
 |[c]=>simp only[Z0i];split<;>simp
 |c::d::t=>simp only[Z0i,Y05];split;omega;split<;>omega
theorem Zax(acc:List Tk)(t:Tk)(x:Nat ⊕ List Tk):Z7q acc (match x with | .inl e=>.inl e | .inr l=>.inr (t::l))=Z7q (acc++[t]) x:=by
 cases x with
 |inl e=>rfl
 |inr l=>simp[Z7q]
theorem aT:Zcj Y00 33 33=some (38,4,40):=by kernel_rfl
theorem Z1W:∀l:List Tk,(Zcg l).length=l.length*4
 |[]=>rfl
 |t::l=>by simp only[Zcg,Y0k,Z1W l,Y05];simp[Tk.cells];omega
theorem Z0I:∀(l:List Tk)(t:Tk),Zcg (l++[t])=Zcg l++t.cells
 |[],t=>by simp[Zcg]
 |a::l,t=>by simp only[Y01,Zcg,Z0I l t,Y0x]
theorem Z1b{α : Type}(l:List α)(t : α):(l++[t]).length=l.length+1:=by simp
theorem Z1g:∀l:List Tk,refsL (Zcg l) []=[]
 |[]=>rfl
 |t::l=>Z1g l
theorem Zb8:∀l:List Tk,(Zcg l).all lit=true
 |[]=>rfl
 |t::l=>by simp only[Zcg,List.all_append,Zb8 l,Bool.and_true];rfl
end
section
variable {gl:Z0k}
def Z7p:List UInt8:=[115,104,97,114,101,100]
def Zaw:List UInt8:=[112,108,97,105,110]
def Z7o:List UInt8:=[116,104,114,101,97,100]
def Z1k(T:List Tq):Nat->List Dc->List (List St)->Ps->(List Dc×List (List St))×Ps
 |0,ds,ts,s=>((ds,ts),s)
 | k + 1, ds, ts, s => if s.err = 0 /\ (Z0r T s).kind ≠ 5 then
   (if isF T s Z7p=true then Z1k T k (ds++(Z0E T false (Z02 s)).1) ts (Z0E T false (Z02 s)).2
    else if isF T s Zaw=true then Z1k T k (ds++(Z0E T true (Z02 s)).1) ts (Z0E T true (Z02 s)).2
    else if isF T s Z7o=true then Z1k T k ds (ts++[(Z6a T (Z02 s)).1]) (Z6a T (Z02 s)).2
    else Z1k T k ds ts (Z0p s 5 (Z0r T s).pos))
  else ((ds,ts),s)
theorem Z9c{T:List Tq}{s:Ps}(h:¬(s.err=0/\(Z0r T s).kind≠5)):∀k ds ts,Z1k T k ds ts s=((ds,ts),s)
 |0,_,_=>rfl
 |k+1,_,_=>by unfold Z1k;rw[if_neg h]
theorem Zgo(T:List Tq)(pl:Bool):∀(k:Nat)(s:Ps),(Z3N T pl k s).1.length<=k
 |0,s=>Y0a _
 |k+1,s=>by
  unfold Z3N;split
  · have:=Zgo T pl k (Z02 (Z5B T pl s).2)
    simp;omega
  ·simp
theorem Z42(T:List Tq)(pl:Bool)(s:Ps):∃d l,(Z0E T pl s).1=d::l/\l.length<=T.length:=by
 have h:=Zgo T pl (T.length+1) s
 have h2:∃d l,(Z3N T pl (T.length+1) s).1=d::l:=by
  unfold Z3N;split
  ·exact⟨_,_,rfl⟩
  ·exact⟨_,_,rfl⟩
 obtain⟨d,l,e⟩:=h2
 rw[e]at h
 exact⟨d,l,e,by simpa using h⟩
end
end Go.Proofs.YtneoiadnbikciaaGreatDoor.lex
section
namespace Go.Abs
open Go.RowKit
theorem Z9h {X : AV -> Prop} {P : Program} {gl : Z0k} {f k : Nat} {Hs Hs' : Z00} {args : List AV} {r : AV} (hM : MemXQ P gl X k f args Hs r Hs') (hk : k <= Hs.length) (hk' : k <= Hs'.length)
  (hg2:∀(i:Nat)(o:AObj),Hs'[i]? = some o->o.fam=i/\o.alive=true/\Z11 Hs'.length (Z3V o.body [])=true) (hs0:∀(i:Nat)(o:AObj),Hs[i]? = some o->o.alive=true/\o.fam=i)
  (hrk:Z11 Hs'.length (Z2a r [])=true) :
  MemX P gl X f args Hs (ren (sgE k Hs.length) r) (Zcf k (sgE k Hs.length) Hs' 0 Hs++shE (sgE k Hs.length) (Hs'.drop k)):=by
 intro sn ι W vargs hg hR hla
 refine (hM sn ι W vargs hg hR hla).mono ?_
 rintro e W' (⟨v,sn',ι',rfl,hv,hst⟩|h)
 case inr=>exact .inr h
 generalize hd:Hs.length=d at *
 let κ : Z0n:=λb=>if b<d then ι b else ι' (k+(b-d))
 have k1:∀b,b<d -> κ b = ι b:=λb hb=>if_pos hb
 have k2:∀b,d<=b -> κ b = ι' (k+(b-d)):=λb hb=>by show (if b<d then ι b else ι' (k+(b-d)))=_;rw[if_neg (by omega)]
 have hkeep:∀b p,b<k -> ι' b=some p -> ι b=some p:=λb p hb hp=>by
  obtain⟨q,hq⟩:=(hR.dom b).1 (by omega)
  have:=hst.keep b q hb hq
  rw[hp]at this;cases this;exact hq
 have hback:∀i,i<Hs'.length->∀p,ι' i=some p -> κ (sgE k d i)=some p:=λi hi p hp=>by
  unfold sgE
  by_cases hik:i<k
  ·rw[if_pos hik,k1 i (by omega)];exact hkeep i p hik hp
  ·rw[if_neg hik,k2 _ (by omega),show k+(d+(i-k)-d)=i by omega];exact hp
 have hlen:(Zcf k (sgE k d) Hs' 0 Hs).length=d:=by rw[Zfk,hd]
 have hget : ∀ (b : Nat) (o' : AObj) (p : Place), (Zcf k (sgE k d) Hs' 0 Hs ++ shE (sgE k d) (Hs'.drop k))[b]? = some o' -> κ b = some p ->
   (b<d /\ ι b=some p/\∃o,Hs[b]? = some o/\o'.fam=o.fam/\o'.sh=o.sh/\(o'.alive=true->∃x,b<k/\Hs'[b]? = some x/\o'.body=Z5I (sgE k d) x.body/\x.alive=true /\ ι' b=some p)) \/
   (d<=b /\ ι' (k+(b-d))=some p/\∃x,Hs'[k+(b-d)]? = some x/\o'={ x with body:=Z5I (sgE k d) x.body }):=by
  intro b o' p hb hp
  by_cases hlt:b<d
  · rw[Y0o (by omega)]at hb
    rw[k1 b hlt]at hp
    refine .inl ⟨hlt,hp,?_⟩
    rw[Zfl]at hb
    simp only[Nat.zero_add]at hb
    cases hx:Hs[b]? with
    |none=>rw[hx]at hb;cases hb
    |some o =>
     rw[hx]at hb
     simp only[Y0t,Option.some.injEq]at hb
     refine⟨o,rfl,?_⟩
     by_cases hbk:b<k
     · have hi':b<Hs'.length:=by omega
       simp only[Nat.blt_eq,hbk,Y0e hi',if_true]at hb
       subst hb
       exact⟨rfl,rfl,λh=>⟨Hs'[b],hbk,Y0e hi',rfl,h,hst.keep b p hbk hp⟩⟩
     · simp only[Nat.blt_eq,hbk,if_false]at hb
       subst hb
       exact⟨rfl,rfl,λh=>by simp[AObj.dead]at h⟩
  · rw[Y0F (by omega),hlen,Zim,List.getElem?_drop]at hb
    rw[k2 b (by omega)]at hp
    cases hx:Hs'[k+(b-d)]? with
    |none=>rw[hx]at hb;cases hb
    |some x =>
     rw[hx]at hb
     simp only[Y0t,Option.some.injEq]at hb
     exact .inr ⟨by omega,hp,x,rfl,hb.symm⟩
 have hR':R sn' κ (Zcf k (sgE k d) Hs' 0 Hs++shE (sgE k d) (Hs'.drop k)) W':=by
  refine⟨λb=>⟨λhb=>?_,λ⟨p,hp⟩=>?_⟩,λb p hp=>?_,λb o' p hb ha hp=>?_,λb b' o o' p p' hb hb' ha ha' hp hp' e=>?_,λa v hv=>?_,λb o' p hb hp e=>?_⟩
  · simp only[Y0k,hlen,Zeh,Y0s]at hb
    by_cases hlt:b<d
    ·rw[k1 b hlt];exact (hR.dom b).1 (by omega)
    ·rw[k2 b (by omega)];exact (hst.rel.dom _).1 (by omega)
  · simp only[Y0k,hlen,Zeh,Y0s]
    by_cases hlt:b<d
    ·omega
    · rw[k2 b (by omega)]at hp
      have:=(hst.rel.dom _).2 ⟨p,hp⟩;omega
  · by_cases hlt:b<d
    ·rw[k1 b hlt]at hp;exact Y0p (hR.blk b p hp) hst.size
    ·rw[k2 b (by omega)]at hp;exact hst.rel.blk _ p hp
  · rcases hget b o' p hb hp with ⟨b1,b2,o,b3,b4,b5,b6⟩|⟨b1,b2,x,b3,rfl⟩
    · obtain⟨x,c1,c2,c3,c4,c5⟩:=b6 ha
      rw[c3]
      exact Z89 x.body (Z2B x.body p (λy hy=>hback y (Z0M (hg2 b x c2).2.2 y hy)) (hst.rel.obj b x p c2 c4 c5))
    ·exact Z89 x.body (Z2B x.body p (λy hy=>hback y (Z0M (hg2 _ x b3).2.2 y hy)) (hst.rel.obj _ x p b3 (hg2 _ x b3).2.1 b2))
  · rcases hget b o p hb hp with ⟨b1,b2,x,b3,b4,b5,b6⟩|⟨b1,b2,x,b3,rfl⟩<;>rcases hget b' o' p' hb' hp' with ⟨c1,c2,y,c3,c4,c5,c6⟩|⟨c1,c2,y,c3,rfl⟩
    · rw[b4,b5,c4,c5]
      exact hR.sep b b' x y p p' b3 c3 (hs0 b x b3).1 (hs0 b' y c3).1 b2 c2 e
    · exfalso
      obtain⟨z,d1,d2,d3,d4,d5⟩:=b6 ha
      have:=(hst.rel.sep b _ z y p p' d2 c3 d4 (hg2 _ y c3).2.1 d5 c2 e).1
      rw[(hg2 b z d2).1,(hg2 _ y c3).1]at this;omega
    · exfalso
      obtain⟨z,d1,d2,d3,d4,d5⟩:=c6 ha'
      have:=(hst.rel.sep _ b' x z p p' b3 d2 (hg2 _ x b3).2.1 d4 b2 d5 e).1
      rw[(hg2 b' z d2).1,(hg2 _ x b3).1]at this;omega
    ·exact hst.rel.sep _ _ x y p p' b3 c3 (hg2 _ x b3).2.1 (hg2 _ y c3).2.1 b2 c2 e
  · obtain⟨h1,h2,h3⟩:=hst.rel.snap a v hv
    refine⟨h1,h2,λb o' p hb ha hp=>?_⟩
    rcases hget b o' p hb hp with ⟨b1,b2,o,b3,b4,b5,b6⟩|⟨b1,b2,x,b3,rfl⟩
    · obtain⟨x,c1,c2,c3,c4,c5⟩:=b6 ha
      exact h3 b x p c2 c4 c5
    ·exact h3 _ x p b3 (hg2 _ x b3).2.1 b2
  · rcases hget b o' p hb hp with ⟨b1,b2,o,b3,b4,b5,b6⟩|⟨b1,b2,x,b3,rfl⟩
    ·exact hR.shz b o p b3 b2 (by rw[<- b5];exact e)
    ·exact hst.rel.shz _ x p b3 b2 e
 refine .inl ⟨v,sn',κ,rfl,?_,hR',⟨hst.le,λb p hb=>?_⟩,λb p hp=>?_,hst.frame,hst.size,hst.os,hst.tape,hst.output,hst.sfresh,λb o hb=>?_⟩
 ·exact (Z5c r v).2 (Z1n r [] v (λy hy=>hback y (Z0M hrk y hy)) hv)
 ·rw[k1 b (by have:=(hR.dom b).2 ⟨p,hb⟩;omega)];exact hb
 · by_cases hlt:b<d
   ·rw[k1 b hlt]at hp;exact .inl hp
   · rw[k2 b (by omega)]at hp
     obtain⟨x,hx⟩:∃x,Hs'[k+(b-d)]? = some x:=⟨_,Y0e ((hst.rel.dom _).2 ⟨p,hp⟩)⟩
     rcases hst.fresh _ _ p hx (hg2 _ _ hx).2.1 hp with h|h
     ·exact .inr (.inl h)
     ·exact .inr (.inr h)
 · have hb':b<(Zcf k (sgE k d) Hs' 0 Hs).length:=by rw[hlen,<- hd];exact (Y0i.1 hb).1
   have hx:=Y0e hb'
   obtain⟨p,hp⟩:=hR.place hb
   have hbd:b<d:=by omega
   rcases hget b _ p (by rw[Y0o hb'];exact hx) (by rw[k1 b hbd];exact hp)with ⟨b1,b2,o2,b3,b4,b5,b6⟩|⟨b1,_⟩
   · rw[hb]at b3;cases b3
     exact⟨_,by rw[Y0o hb'];exact hx,b4,b5,λ_=>(hs0 b o hb).1⟩
   ·omega
theorem Z2d {X : AV -> Prop} {P : Program} {gl : Z0k} {f : Nat} {Hs Hs' Hc : Z00} {fargs cargs : List AV} {r : AV} {m : List Nat} (hM : MemX P gl X f fargs Hs r Hs') (hargs : Wk m (.tuple cargs) (.tuple fargs)) (hsub : HpGe Hc m m Hs 0)
  (hnd:Z0U (m.map (Z1x Hc))=true) (hlone:Zhd m (m.map (Z1x Hc)) 0 Hc=true) (hnA:Z0U (Z8k Hs')=true) (hF:∀o∈Hc,o.fam<Hc.length)
  (hg2:∀(i:Nat)(o:AObj),Hs'[i]? = some o->Z11 Hs'.length (Z3V o.body [])=true) (hrk:Z11 Hs'.length (Z2a r [])=true) :
  MemX P gl X f cargs Hc (ren (sgS m Hc.length) r) (Z9X m (sgS m Hc.length) Hs' 0 Hc++shS (sgS m Hc.length) Hc.length (Hs'.drop m.length)):=by
 intro sn ι W vargs hg hR hl
 obtain⟨hl1,hg1⟩:=hsub.get
 have inm:∀b,b∈m->∃ (i:Nat) (o o2:AObj) (p:Place),m[i]? = some b/\Hc[b]? = some o/\Hs[i]? = some o2/\o.alive=true/\o2.alive=true /\ ι b=some p/\o2.sh=o.sh:=by
  intro b hb
  obtain⟨i,hi,rfl⟩:=List.mem_iff_getElem.1 hb
  obtain⟨j,o,o2,x1,x2,x3,x4,x5,_,x7,_⟩:=hg1 i hi
  rw[Y0e hi]at x1
  cases x1
  obtain⟨p,hp⟩:=hR.place x2
  exact⟨i,o,o2,p,Y0e hi,x2,x3,x4,x5,hp,x7⟩
 have apart_:∀(b:Nat)(o:AObj)(p:Place),Hc[b]? = some o->o.alive=true->b ∉ m -> ι b=some p->∀b' p',b'∈m -> ι b'=some p'->p'.blk≠p.blk:=by
  intro b o p ho hoa hb hp b' p' hb' hp' e
  obtain⟨i,o',o2,q,y1,y2,y3,y4,y5,y6,_⟩:=inm b' hb'
  have hs:=hR.sep b b' o o' p p' ho y2 hoa y4 hp hp' e.symm
  rcases Z9k hlone ho hoa with h|h
  ·exact hb (by simpa using h)
  · refine h ?_
    rw[List.mem_map]
    exact⟨b',hb',by simp only[Z1x,y2];exact hs.1.symm⟩
 have hRs:R sn (iot m ι) Hs W:=ZnB hsub hnd hR
 have atm:∀{i:Nat}{p:Place},iot m ι i=some p->∃b,m[i]? = some b/\b∈m /\ ι b=some p:=λ{i p} hp=>by
  unfold iot at hp
  split at hp
  ·rename_i b hb;exact⟨b,hb,Y0G hb,hp⟩
  ·cases hp
 have hla:LR sn (iot m ι) fargs vargs:=by
  have h1:VR sn ι (.tuple cargs) (.tuple vargs.toArray):=by simp only[VR];exact⟨_,rfl,by simpa using hl⟩
  have h2:=hargs _ _ _ h1
  simp only[VR]at h2
  obtain⟨d,e1,e2⟩:=h2
  simp at e1;subst e1;simpa using e2
 refine (hM sn (iot m ι) W vargs hg hRs hla).mono ?_
 rintro e W' (⟨v,sn',ι',rfl,hv,hst⟩|⟨hfn,ch,rfl,u,v,p1,p2,p3,p4,p5⟩)
 case inr =>
  refine .inr ⟨hfn,ch,rfl,u,v,p1,p2,p3,λc hc hno=>p4 c hc λi o2 q2 hi ha hq2 e=>?_,p5⟩
  obtain⟨b,_,hb,hp3⟩:=atm hq2
  obtain⟨_,o,_,_,_,y2,_,y4,_⟩:=inm b hb
  exact hno b o q2 y2 y4 hp3 e
 generalize hd:Hc.length=d at *
 generalize hk:m.length=k at *
 have hk':k<=Hs'.length:=by
  rcases Nat.eq_zero_or_pos k with h|h
  ·omega
  · have:=(Y0i.1 (hst.evo (k-1) _ (Y0e (by omega))).choose_spec.1).1
    omega
 let κ : Z0n:=λb=>if b<d then ι b else ι' (k+(b-d))
 have k1:∀b,b<d -> κ b = ι b:=λb hb=>if_pos hb
 have k2:∀b,d<=b -> κ b = ι' (k+(b-d)):=λb hb=>by show (if b<d then ι b else ι' (k+(b-d)))=_;rw[if_neg (by omega)]
 have mLt:∀{i b:Nat},m[i]? = some b->b<d:=λ{i b} h=>by
  obtain⟨_,o,_,p,_,y2,_⟩:=inm b (Y0G h)
  rw[<- hd];exact (Y0i.1 y2).1
 have hfwd:∀(i b:Nat)(p:Place),m[i]? = some b -> ι b=some p -> ι' i=some p:=λi b p hb hp=>hst.le.ι i p (by simp only[iot,hb];exact hp)
 have hback:∀i,i<Hs'.length->∀p,ι' i=some p -> κ (sgS m d i)=some p:=λi hi p hp=>by
  unfold sgS
  rw[hk]
  by_cases hik:i<k
  · obtain⟨b,hb⟩:∃b,m[i]? = some b:=⟨m[i],Y0e (by omega)⟩
    obtain⟨q,hq⟩:=(hR.dom b).1 (by rw[hd];exact mLt hb)
    have:=hfwd i b q hb hq
    rw[hp]at this;cases this
    rw[if_pos hik,Y0C,hb]
    show κ b=some p
    rw[k1 b (mLt hb)];exact hq
  ·rw[if_neg hik,k2 _ (by omega),show k+(d+(i-k)-d)=i by omega];exact hp
 have pos_:∀b,b∈m->∃i,Z5M m b 0=some i/\m[i]? = some b:=λb hb=>by
  cases hx:Z5M m b 0 with
  |none=>exact (Z6s hx hb).elim
  |some i=>exact⟨i,rfl,by simpa using (Z2L hx).2⟩
 have hlen:(Z9X m (sgS m d) Hs' 0 Hc).length=d:=by rw[Zb3,hd]
 have hnr:∀c,c<W.heap.size->(∀(b:Nat)(o:AObj) p,Hc[b]? = some o->o.alive=true -> ι b=some p->p.blk≠c)->W'.heap[c]? = W.heap[c]?:=λc hc hno=>by
  refine hst.frame c hc λi o2 p2 hi ha hp2 e=>?_
  obtain⟨b,_,hb,hp3⟩:=atm hp2
  obtain⟨_,o,_,_,_,y2,_,y4,_⟩:=inm b hb
  exact hno b o p2 y2 y4 hp3 e
 have old:∀(b:Nat)(o:AObj)(p:Place),Hc[b]? = some o->o.alive=true->b ∉ m -> ι b=some p->W'.heap[p.blk]? = W.heap[p.blk]?:=λb o p ho hoa hb hp=>by
  refine hst.frame _ (hR.blk b p hp) λi o2 p2 hi ha hp2 e=>?_
  obtain⟨c,_,hc,hp3⟩:=atm hp2
  exact apart_ b o p ho hoa hb hp c p2 hc hp3 e
 have new_:∀(j:Nat)(x:AObj)(p:Place),Hs'[j]? = some x->x.alive=true->k<=j -> ι' j=some p->∀(b:Nat)(o:AObj)(q:Place),Hc[b]? = some o->o.alive=true->b ∉ m -> ι b=some q->q.blk≠p.blk:=by
  intro j x p hj hja hkj hp b o q ho hoa hb hq e
  rcases hst.fresh j p hp with h|h|⟨b0,o0,p0,e1,e2,e3,e4⟩
  · obtain⟨c,hc,_⟩:=atm h
    have:=(Y0i.1 hc).1;omega
  ·have:=hR.blk b q hq;omega
  · obtain⟨c,_,hc,hp3⟩:=atm e3
    exact apart_ b o q ho hoa hb hq c p0 hc hp3 (e4.trans e.symm)
 have hget : ∀ (b : Nat) (o' : AObj) (p : Place), (Z9X m (sgS m d) Hs' 0 Hc ++ shS (sgS m d) d (Hs'.drop k))[b]? = some o' -> κ b = some p ->
   (b<d /\ ι b=some p/\∃o,Hc[b]? = some o/\o'.fam=o.fam/\o'.sh=o.sh/\((b ∉ m/\o'=o)\/∃i x,m[i]? = some b/\i<k/\Hs'[i]? = some x/\o'.alive=x.alive/\o'.body=Z5I (sgS m d) x.body/\o.alive=true /\ ι' i=some p)) \/
   (d<=b /\ ι' (k+(b-d))=some p/\∃x,Hs'[k+(b-d)]? = some x/\o'=⟨x.alive,b,x.sh,Z5I (sgS m d) x.body⟩):=by
  intro b o' p hb hp
  by_cases hlt:b<d
  · rw[Y0o (by omega)]at hb
    rw[k1 b hlt]at hp
    refine .inl ⟨hlt,hp,?_⟩
    rw[Zb4]at hb
    simp only[Nat.zero_add]at hb
    cases hx:Hc[b]? with
    |none=>rw[hx]at hb;cases hb
    |some o =>
     rw[hx]at hb
     simp only[Y0t,Option.some.injEq]at hb
     refine⟨o,rfl,?_⟩
     by_cases hbm:b∈m
     · obtain⟨i,h1,h2⟩:=pos_ b hbm
       have hi:i<k:=by rw[<- hk];exact (Y0i.1 h2).1
       have hi':i<Hs'.length:=by omega
       rw[h1]at hb
       simp only[Y0e hi']at hb
       subst hb
       obtain⟨_,y,_,_,_,y2,_,y4,_⟩:=inm b hbm
       rw[hx]at y2;cases y2
       exact⟨rfl,rfl,.inr ⟨i,Hs'[i],h2,hi,Y0e hi',rfl,rfl,y4,hfwd i b p h2 hp⟩⟩
     · have hn : Z5M m b 0 = none := by
        cases hx:Z5M m b 0 with
        |none=>rfl
        |some i=>exact (hbm (Y0G (Z2L hx).2)).elim
       rw[hn]at hb
       subst hb
       exact⟨rfl,rfl,.inl ⟨hbm,rfl⟩⟩
  · rw[Y0F (by omega),hlen,Zeg,List.getElem?_drop]at hb
    rw[k2 b (by omega)]at hp
    cases hx:Hs'[k+(b-d)]? with
    |none=>rw[hx]at hb;cases hb
    |some x =>
     rw[hx]at hb
     simp only[Y0t,Option.some.injEq]at hb
     exact .inr ⟨by omega,hp,x,rfl,by rw[<- hb,show d+(b-d)=b by omega]⟩
 have hal:∀{b:Nat}{o o':AObj}{p:Place},((b ∉ m/\o'=o)\/∃i x,m[i]? = some b/\i<k/\Hs'[i]? = some x/\o'.alive=x.alive/\o'.body=Z5I (sgS m d) x.body/\o.alive=true /\ ι' i=some p)->o'.alive=true->o.alive=true:=λ{b o o' p} h ha=>by
  rcases h with ⟨_,rfl⟩|⟨_,_,_,_,_,_,_,h,_⟩
  ·exact ha
  ·exact h
 have hR':R sn' κ (Z9X m (sgS m d) Hs' 0 Hc++shS (sgS m d) d (Hs'.drop k)) W':=by
  refine⟨λb=>⟨λhb=>?_,λ⟨p,hp⟩=>?_⟩,λb p hp=>?_,λb o' p hb ha hp=>?_,λb b' o o' p p' hb hb' ha ha' hp hp' e=>?_,λa v hv=>?_,λb o' p hb hp e=>?_⟩
  · simp only[Y0k,hlen,Z92,Y0s]at hb
    by_cases hlt:b<d
    ·rw[k1 b hlt];exact (hR.dom b).1 (by omega)
    ·rw[k2 b (by omega)];exact (hst.rel.dom _).1 (by omega)
  · simp only[Y0k,hlen,Z92,Y0s]
    by_cases hlt:b<d
    ·omega
    · rw[k2 b (by omega)]at hp
      have:=(hst.rel.dom _).2 ⟨p,hp⟩;omega
  · by_cases hlt:b<d
    ·rw[k1 b hlt]at hp;exact Y0p (hR.blk b p hp) hst.size
    ·rw[k2 b (by omega)]at hp;exact hst.rel.blk _ p hp
  · rcases hget b o' p hb hp with ⟨b1,b2,o,b3,b4,b5,⟨b6,rfl⟩|⟨i,x,c1,c2,c3,c4,c5,c6,c7⟩⟩|⟨b1,b2,x,b3,rfl⟩
    · refine Z0P ⟨hst.le.sn,λc p hc=>?_⟩ (old b _ p b3 ha b6 b2) (hR.obj b _ p b3 ha b2)
      rw[k1 c (by have:=(hR.dom c).2 ⟨p,hc⟩;omega)];exact hc
    · rw[c5]
      exact Z89 x.body (Z2B x.body p (λy hy=>hback y (Z0M (hg2 i x c3) y hy)) (hst.rel.obj i x p c3 (by rw[<- c4];exact ha) c7))
    ·exact Z89 x.body (Z2B x.body p (λy hy=>hback y (Z0M (hg2 _ x b3) y hy)) (hst.rel.obj _ x p b3 ha b2))
  · rcases hget b o p hb hp with ⟨b1,b2,x,b3,b4,b5,b6⟩|⟨b1,b2,x,b3,rfl⟩<;>rcases hget b' o' p' hb' hp' with ⟨c1,c2,y,c3,c4,c5,c6⟩|⟨c1,c2,y,c3,rfl⟩
    · rw[b4,b5,c4,c5]
      exact hR.sep b b' x y p p' b3 c3 (hal b6 ha) (hal c6 ha') b2 c2 e
    · exfalso
      rcases b6 with ⟨b6,rfl⟩|⟨i,z,d1,d2,d3,d4,d5,d6,d7⟩
      ·exact new_ _ y p' c3 ha' (by omega) c2 b _ p b3 ha b6 b2 e
      · have hs:=(hst.rel.sep i _ z y p p' d3 c3 (by rw[<- d4];exact ha) ha' d7 c2 e).1
        have:=Z3d hnA d3 c3 (by rw[<- d4];exact ha) ha' hs
        omega
    · exfalso
      rcases c6 with ⟨c6,rfl⟩|⟨i,z,d1,d2,d3,d4,d5,d6,d7⟩
      ·exact new_ _ x p b3 ha (by omega) b2 b' _ p' c3 ha' c6 c2 e.symm
      · have hs:=(hst.rel.sep _ i x z p p' b3 d3 ha (by rw[<- d4];exact ha') b2 d7 e).1
        have:=Z3d hnA b3 d3 ha (by rw[<- d4];exact ha') hs
        omega
    · have hs:=hst.rel.sep _ _ x y p p' b3 c3 ha ha' b2 c2 e
      have:=Z3d hnA b3 c3 ha ha' hs.1
      have hbb:b=b':=by omega
      exact⟨hbb,hs.2⟩
  · obtain⟨h1,h2,h3⟩:=hst.rel.snap a v hv
    refine⟨h1,h2,λb o' p hb ha hp he=>?_⟩
    rcases hget b o' p hb hp with ⟨b1,b2,o,b3,b4,b5,⟨b6,rfl⟩|⟨i,x,c1,c2,c3,c4,c5,c6,c7⟩⟩|⟨b1,b2,x,b3,rfl⟩
    · rcases hst.sfresh a v hv with f1|f1|⟨b0,o0,p0,f1,f2,f3,f4⟩
      ·exact (hR.snap a v f1).2.2 b _ p b3 ha b2 he
      ·have:=hR.blk b p b2;omega
      · obtain⟨c,_,hc,hp3⟩:=atm f3
        exact apart_ b _ p b3 ha b6 b2 c p0 hc hp3 (f4.trans he.symm)
    ·exact h3 i x p c3 (by rw[<- c4];exact ha) c7 he
    ·exact h3 _ x p b3 ha b2 he
  · rcases hget b o' p hb hp with ⟨b1,b2,o,b3,b4,b5,b6⟩|⟨b1,b2,x,b3,rfl⟩
    ·exact hR.shz b o p b3 b2 (by rw[<- b5];exact e)
    ·exact hst.rel.shz _ x p b3 b2 e
 have oldp:∀(b0:Nat)(o0:AObj)(p0:Place),Hs[b0]? = some o0->o0.alive=true->iot m ι b0=some p0->∃ (b1:Nat) (o1:AObj) (p1:Place),Hc[b1]? = some o1/\o1.alive=true /\ ι b1=some p1/\p1.blk=p0.blk:=λb0 o0 p0 e1 e2 e3=>by
  obtain⟨c,_,hc,hp3⟩:=atm e3
  obtain⟨_,o,_,_,_,y2,_,y4,_⟩:=inm c hc
  exact⟨c,o,p0,y2,y4,hp3,rfl⟩
 refine .inl ⟨v,sn',κ,rfl,?_,hR',⟨hst.le.sn,λb p hb=>?_⟩,λb p hp=>?_,hnr,hst.size,hst.os,hst.tape,hst.output,λa v hv=>?_,λb o hb=>?_⟩
 ·exact (Z5c r v).2 (Z1n r [] v (λy hy=>hback y (Z0M hrk y hy)) hv)
 ·rw[k1 b (by have:=(hR.dom b).2 ⟨p,hb⟩;omega)];exact hb
 · by_cases hlt:b<d
   ·rw[k1 b hlt]at hp;exact .inl hp
   · rw[k2 b (by omega)]at hp
     rcases hst.fresh _ p hp with h|h|⟨b0,o0,p0,e1,e2,e3,e4⟩
     · obtain⟨c,hc,_⟩:=atm h
       have:=(Y0i.1 hc).1;omega
     ·exact .inr (.inl h)
     · obtain⟨b1,o1,p1,g1,g2,g3,g4⟩:=oldp b0 o0 p0 e1 e2 e3
       exact .inr (.inr ⟨b1,o1,p1,g1,g2,g3,g4.trans e4⟩)
 · rcases hst.sfresh a v hv with f1|f1|⟨b0,o0,p0,f1,f2,f3,f4⟩
   ·exact .inl f1
   ·exact .inr (.inl f1)
   · obtain⟨b1,o1,p1,g1,g2,g3,g4⟩:=oldp b0 o0 p0 f1 f2 f3
     exact .inr (.inr ⟨b1,o1,p1,g1,g2,g3,g4.trans f4⟩)
 · have hbd:b<d:=by rw[<- hd];exact (Y0i.1 hb).1
   have hb':b<(Z9X m (sgS m d) Hs' 0 Hc).length:=by omega
   have hx:=Y0e hb'
   obtain⟨p,hp⟩:=hR.place hb
   rcases hget b _ p (by rw[Y0o hb'];exact hx) (by rw[k1 b hbd];exact hp)with ⟨b1,b2,o2,b3,b4,b5,b6⟩|⟨b1,_⟩
   · rw[hb]at b3;cases b3
     exact⟨_,by rw[Y0o hb'];exact hx,b4,b5,λha=>hal b6 ha⟩
   ·omega
end Go.Abs
end
namespace Go.Proofs.YtneoiadnbikciaaGreatDoor.lex
open Go.Abs Go.RowKit
section
variable {gl:Z0k}
theorem Zk3(T:List Tq)(pl:Bool)(s:Ps):Kr s (Z5B T pl s).2:=by
 unfold Z5B
 split
 · split
   ·exact (Z48 T s).trans ((Z0q _).trans (Z0q _))
   ·exact (Z48 T s).trans ((Z0q _).trans (Z2Z _ _ (by decide)))
 ·exact Z48 T s
theorem ZeW(T:List Tq)(pl:Bool):∀(k:Nat)(s:Ps),Kr s (Z3N T pl k s).2
 |0,s=>Kr.rfl'
 |k+1,s=>by
  unfold Z3N
  split
  ·exact (Zk3 T pl s).trans ((Z0q _).trans (ZeW T pl k _))
  ·exact Zk3 T pl s
theorem ZbU(T:List Tq)(pl:Bool)(s:Ps):Kr s (Z0E T pl s).2:=(ZeW T pl _ s).trans (Z0s T _ _)
def Z1l(b:Nat):List Dc->AV
 |[]=>.nslice
 |e::l=>.slice b 0 (l.length+1) (l.length+1) 3
def Z2N(b:Nat):List Dc->Z00
 |[]=>[]
 |e::l=>[⟨true,b,0,.cells (dcC (e::l)) 66⟩]
structure Bg6 where
 l:List Dc
 s:Ps
 k:Nat
theorem Z1q{m:List Nat}{b b2 len z:Nat}(h:m[b2]? = some b):Wk m (.slice b 0 len len z) (.slice b2 0 len len z):=Wk.slice h rfl rfl (Y0a _) (Y0a _) rfl
def Zst(f:Nat):Bool:=Y04 f 57 || (Y04 f 80 || (Y04 f 81 || Y04 f 56))
theorem ZlX {T : List Tq} (hT : TqOK T) {s0 : Ps} (hg0 : GOK T s0) (pl : Bool) (l0 : List Dc) (hl0 : l0.length + T.length + 1 <= 1000002000001) {R : List Dc × Ps} (hR0 : Z0E T pl s0 = R) :
  MemXQ Y00 gl (XF R.2) 11 58 [.ptr 0 0,Z1l 11 l0,.bool pl] (gB T s0++Z2N 11 l0) (Z1l 11 (l0++R.1)) (gB T R.2++Z2N 11 (l0++R.1)):=by
 have hTy:Zcj Y00 23 23=some (66,3,32):=by kernel_rfl
 unfold Z0E at hR0
 generalize hR:Z3N T pl (T.length+1) s0=Q at *
 obtain⟨RL,RS⟩:=Q
 subst hR0
 simp only
 generalize hE:Z03 T RS [59]=E at *
 obtain⟨O,hO,⟨p1,p2,p3,p4,-⟩,-⟩:=Z2w (P:=Y00) (gl:=gl) (XF E) [Z6B T,Z6F T,Z6G T,Z2Y T] [] rfl
 have kE:=Z0s T RS [59]
 rw[hE]at kE
 have hI:GOK T s0/\l0.length+(T.length+1)<=l0.length+T.length+1/\T.length-s0.i<T.length+1/\l0++(Z3N T pl (T.length+1) s0).1=l0++RL/\(Z3N T pl (T.length+1) s0).2=RS:=⟨hg0,by omega,by omega,by rw[hR],by rw[hR]⟩
 clear hR
 generalize l0++RL=RT at *
 refine Z0w Zst 3 follows Z05 hO Tryz.func58 rfl ?_
 rw (occs:=.pos [1]) [Z0c hg0.er]
 simp only[gL,LV,Y01,Y02]
 rcases l0 with _|⟨a0,l0⟩
 all_goals simp only[Z1l,Z2N]
 all_goals repeat' ((conv=>whnf);first|(exact Or.inl rfl)|(refine Or.inr ?_)|refine stp ?_|with_reducible apply Z01<;>intro h)
 all_goals (conv=>whnf)
 case' nil=>refine⟨Bg6,(λy=>GOK T y.s/\y.l.length+y.k<=1000002000001/\T.length-y.s.i<y.k/\y.l++(Z3N T pl y.k y.s).1=RT/\(Z3N T pl y.k y.s).2=RS),(λy=>[(0,.ptr 0 0),(1,Z1l 11 y.l),(2,.bool pl)]),
  (λy=>gL T y.s.i y.s.op++Z2N 11 y.l),(λy=>y.k),⟨⟨[],s0,T.length+1⟩,⟨hI.1,by simpa using hl0,hI.2.2⟩,?_⟩,?_⟩
 case' cons=>refine⟨Bg6,(λy=>GOK T y.s/\y.l.length+y.k<=1000002000001/\T.length-y.s.i<y.k/\y.l++(Z3N T pl y.k y.s).1=RT/\(Z3N T pl y.k y.s).2=RS),(λy=>[(0,.ptr 0 0),(1,Z1l 11 y.l),(2,.bool pl)]),
  (λy=>gL T y.s.i y.s.op++Z2N 11 y.l),(λy=>y.k),⟨⟨a0::l0,s0,T.length+1⟩,⟨hI.1,by simpa[Nat.add_assoc]using hl0,hI.2.2⟩,?_⟩,?_⟩
 case' nil.refine_1 =>
  refine Y07 M11 rfl rfl ?_ ?_ rfl
  ·exact wks
  ·refine Z1o (l:=[]) (ms:=[]) (X':=[]) ?_ ?_ trivial<;>rfl
 case' cons.refine_1 =>
  refine Y07 [0,1,2,3,4,5,6,7,8,9,10,11] rfl rfl ?_ ?_ rfl
  · dsimp only[Z1l]
    exact wks
  ·refine Z1o (l:=[11]) (X':=[_]) ?_ ?_ ⟨⟨rfl,rfl,rfl,rfl,Z07 rfl (Z0h _)⟩,trivial⟩<;>rfl
 all_goals
  clear hI hg0 hl0
  rintro⟨l,s,k⟩ ⟨hs,hlk,hk,hL,hS⟩
  dsimp only at hs hlk hk hL hS
  (try dsimp only)
  obtain⟨k,rfl⟩:∃k',k=k'+1:=⟨k-1,by omega⟩
  have kD:Kr (Z5B T pl s).2 RS:=by
   unfold Z3N at hS
   split at hS
   ·rw[<- hS];exact (Z0q _).trans (ZeW T pl k _)
   ·rw[<- hS];exact Kr.rfl'
  have hkw:=Z48 T s
  have hgw:=Z5d hs.ok
  have hfew:=hs.ok.few
  by_cases e1:(Z0e T s).err=0
  case neg =>
   have hN:Kr (Z0e T s) (Z5B T pl s).2:=by
    unfold Z5B
    split
    · split
      ·exact (Z0q _).trans (Z0q _)
      ·exact (Z0q _).trans (Z2Z _ _ (by decide))
    ·exact Kr.rfl'
   have q1:∀X,Z08 Z0z X=true->Z06 Y00 O (gL T s.i s.op++X) 80 [.ptr 0 0]=some (.str (Z0Z T s),gD (Z0e T s)++X):=λX hX=>ZqO p2 () s X hs ⟨hs.ok,hs.at0⟩ (hN.trans (kD.trans kE)).x hX e1
   clear p1 p2 p3 p4 hN kD hkw hgw hL hS
   generalize Z0e T s=s1 at *
   generalize Z0Z T s=w at *
   simp only[gL,LV,gD,Y01,Y02]at q1⊢
   rcases l with _|⟨a,l⟩
   all_goals simp only[Z1l,Z2N]
   all_goals repeat' ((conv=>whnf);first|(exact Or.inl rfl)|(refine Or.inr ?_)|refine exI (q1 _ rfl) ?_|refine stp ?_|with_reducible apply Z01<;>intro h)
  have hg1:=hs.go hgw hkw e1
  have q1:∀X,Z08 Z0z X=true->Z06 Y00 O (gL T s.i s.op++X) 80 [.ptr 0 0]=some (.str (Z0Z T s),gL T (Z0e T s).i (Z0e T s).op++X):=λX hX=>Zr1 p2 () s X hs ⟨hs.ok,hs.at0⟩ hX rfl e1
  have f2:=Z4X hT hg1.ok hg1.er (w:=[61]) rfl
  have rest : ∀ (v : Int) (s3 : Ps), Z5B T pl s = (⟨Z0Z T s, pl, v⟩, s3) -> GOK T s3 ->
    (isF T s3 [44]=true/\(∀X,Z08 Z0z X=true->Z06 Y00 O (gL T s3.i s3.op++X) 57 [.ptr 0 0,.int .i64 4,.str [44]]=some (.bool true,gL T (s3.i+1) s3.op++X))/\GOK T (Z02 s3)/\l++(⟨Z0Z T s,pl,v⟩::(Z3N T pl k (Z02 s3)).1)=RT/\(Z3N T pl k (Z02 s3)).2=RS/\T.length-(Z02 s3).i<k) \/
    ((∀X,Z08 Z0z X=true->Z06 Y00 O (gL T s3.i s3.op++X) 57 [.ptr 0 0,.int .i64 4,.str [44]]=some (.bool false,gL T s3.i s3.op++X))/\(∀X,Z08 Z0z X=true->Z06 Y00 O (gL T s3.i s3.op++X) 81 [.ptr 0 0,.str [59]]=some (.tuple [],gB T E++X))/\l++[⟨Z0Z T s,pl,v⟩]=RT):=by
   intro v s3 h3 hg3
   have f3:=Z4X hT hg3.ok hg3.er (w:=[44]) rfl
   have hon:=(ZeX pl hs.ok).on
   rw[h3]at hon
   have hlt3:=hg3.ok.lt
   unfold Z3N at hL hS
   rw[h3]at hL hS
   simp only at hL hS hon
   cases hc:isF T s3 [44] with
   |true =>
    rw[hc,if_pos rfl]at hL hS
    refine .inl ⟨rfl,λX hX=>Znk p1 hg3 (f3.trans hc) (λu hu=>(Z9V (s:=Z02 s3) hg3.er u hu).elim) hX,hg3.go (Z0b hg3.ok hc) (Z0q _) hg3.er,hL,hS,?_⟩
    show T.length-(s3.i+1)<k
    omega
   |false =>
    rw[hc,if_neg (by decide)]at hL hS
    simp only at hL hS
    refine .inr ⟨λX hX=>ZhK p1 hg3 (f3.trans hc) hX,λX hX=>?_,hL⟩
    have h:=Z87 p3 hT hg3 [59] rfl rfl (by decide) (by rw[hS,hE];exact λu hu=>hu) (X:=X) hX
    subst hS
    rwa [hE]at h
  cases hb:isF T (Z0e T s) [61] with
  |false =>
   have q2:=λX hX=>ZhK p1 hg1 (f2.trans hb) (X:=X) hX
   have hd:Z5B T pl s=(⟨Z0Z T s,pl,0⟩,Z0e T s):=by unfold Z5B;rw[hb];rfl
   have hr:=rest 0 (Z0e T s) hd hg1
   clear p1 p2 p3 p4 rest kD hkw hgw hL hS kE hE hd f2 hb
   generalize Z0e T s=s1 at *
   generalize Z0Z T s=w at *
   have hcl:(dcC l).length=l.length*3:=Z1T l
   have hsn:=Z52 l w pl 0
   rcases hr with ⟨h1,h2,h3,h4,h5,h6⟩|⟨h1,h2,h3⟩
   · clear h1
     simp only[gL,LV,Y01,Y02]at q1 q2 h2⊢
     rcases l with _|⟨a,l⟩
     all_goals (try simp only[Y05]at hlk hcl)
     all_goals simp only[Z1l,Z2N]
     all_goals repeat' ((conv=>whnf);first|(refine Or.inr ?_)|refine exI (q1 _ rfl) ?_|refine exI (q2 _ rfl) ?_|refine exI (h2 _ rfl) ?_|(refine apS ?_)|refine stp ?_|with_reducible apply Z01<;>intro h)
     all_goals (conv=>whnf)
     · refine⟨⟨[⟨w,pl,0⟩],_,k⟩,⟨h3,by simp at hlk⊢;omega,h6,h4,h5⟩,Y0h _,?_⟩
       refine Y07 [0,1,2,3,4,5,6,7,8,9,10,13] rfl rfl ?_ ?_ rfl
       · dsimp only[Z1l,Y0c]
         exact wks
       ·refine Z1o (l:=[13]) (X':=[_]) ?_ ?_ ⟨⟨rfl,rfl,rfl,rfl,Z07 rfl (Z0h [⟨w,pl,0⟩])⟩,trivial⟩<;>rfl
     · have hl1:(l++[(⟨w,pl,0⟩:Dc)]).length=l.length+1:=by simp
       refine⟨⟨a::(l++[⟨w,pl,0⟩]),_,k⟩,⟨h3,by simp only[Y05,hl1];omega,h6,(by simp only[Y01,Y0x,Y02]at h4⊢;exact h4),h5⟩,Y0h _,?_⟩
       refine Y07 [0,1,2,3,4,5,6,7,8,9,10,14] rfl rfl ?_ ?_ rfl
       · dsimp only[Z1l]
         rw[hl1]
         exact wks
       ·refine Z1o (l:=[14]) (X':=[_]) ?_ ?_ ⟨⟨rfl,rfl,rfl,rfl,Z07 hsn (Z0h _)⟩,trivial⟩<;>rfl
   · subst h3
     simp only[gL,LV,Y01,Y02]at q1 q2 h1 h2⊢
     rcases l with _|⟨a,l⟩
     all_goals (try simp only[Y05]at hlk hcl)
     all_goals simp only[Z1l,Z2N]
     all_goals repeat' ((conv=>whnf);first|(exact Or.inl rfl)|(refine Or.inr ?_)|refine exI (q1 _ rfl) ?_|refine exI (q2 _ rfl) ?_|refine exI (h1 _ rfl) ?_|(refine exG (h2 _ rfl) (λhd=>?_) (λe3=>?_))|(refine apS ?_)|refine stp ?_|with_reducible apply Z01<;>intro h)
     all_goals (conv=>whnf)
     · refine⟨[],[0,1,2,3,4,5,6,7,8,9,10,13],rfl,?_,rfl,rfl,.inl (Z1q rfl)⟩
       rw[Z0c e3]
       refine Zaz (l:=[13]) (X':=[_]) ?_ ?_ ⟨⟨rfl,rfl,rfl,rfl,Y0q (Z07 rfl (Z0h [⟨w,pl,0⟩]))⟩,trivial⟩<;>rfl
     · have hl1:(l++[(⟨w,pl,0⟩:Dc)]).length=l.length+1:=by simp
       refine⟨[],[0,1,2,3,4,5,6,7,8,9,10,14],rfl,?_,rfl,rfl,.inl ?_⟩
       · rw[Z0c e3]
         refine Zaz (l:=[14]) (X':=[_]) ?_ ?_ ⟨⟨rfl,rfl,rfl,rfl,Y0q (Z07 hsn (Z0h _))⟩,trivial⟩<;>rfl
       · show Wk _ _ (Z1l 11 (a::(l++[⟨w,pl,0⟩])))
         dsimp only[Z1l]
         rw[hl1]
         exact Z1q rfl
  |true =>
   have q2:=λX hX=>Znk p1 hg1 (f2.trans hb) (λu hu=>(Z9V (s:=Z02 (Z0e T s)) e1 u hu).elim) (X:=X) hX
   have hg2:GOK T (Z02 (Z0e T s)):=hg1.go (Z0b hg1.ok hb) (Z0q _) e1
   have hx:=tq4 T (Z02 (Z0e T s)).i hg2.ok.lt
   rw[<- Z0t hg2.ok.lt]at hx
   have hlt:(Z0e T s).i+1<T.length:=hg2.ok.lt
   by_cases h3:(Z0r T (Z02 (Z0e T s))).kind=3
   · have hd:Z5B T pl s=(⟨Z0Z T s,pl,(Z0r T (Z02 (Z0e T s))).num⟩,Z02 (Z02 (Z0e T s))):=by unfold Z5B;rw[hb,if_pos rfl,if_pos h3]
     have hg3:GOK T (Z02 (Z02 (Z0e T s))):=hg2.go (ZmT hg2.ok h3) (Z0q _) e1
     have hr:=rest _ _ hd hg3
     have wa:IntKind.i64.wrap ((((Z0e T s).i+1:Nat):Int)+1)=(((Z0e T s).i+1+1:Nat):Int):=Z1P (by omega)
     clear p1 p2 p3 p4 rest kD hkw hgw hL hS kE hE hd f2 hb
     simp only[Z02]at hx hlt h3 hg3 hr wa q2
     generalize Z0r T { Z0e T s with i:=(Z0e T s).i+1 }=t at *
     obtain⟨kd,tx,nm,ps⟩:=t
     simp only at h3
     subst h3
     generalize Z0e T s=s1 at *
     generalize Z0Z T s=w at *
     simp only[Tq.cells]at hx
     have hcl:(dcC l).length=l.length*3:=Z1T l
     have hsn:=Z52 l w pl nm
     rcases hr with ⟨h1,h2,h3,h4,h5,h6⟩|⟨h1,h2,h3⟩
     · clear h1
       simp only[gL,LV,Y01,Y02]at q1 q2 h2⊢
       rcases l with _|⟨a,l⟩
       all_goals (try simp only[Y05]at hlk hcl)
       all_goals simp only[Z1l,Z2N]
       all_goals repeat' ((conv=>whnf);first|(refine Or.inr ?_)|refine exI hx ?_|refine exI (q1 _ rfl) ?_|refine exI (q2 _ rfl) ?_|refine exI (h2 _ rfl) ?_|(with_reducible refine exW wa ?_)|(with_reducible refine ixJ (s1.i+1) rfl ?_ ?_;focus omega)|(refine apS ?_)|refine stp ?_|with_reducible apply Z01<;>intro h)
       all_goals (conv=>whnf)
       · refine⟨⟨[⟨w,pl,nm⟩],_,k⟩,⟨h3,by simp at hlk⊢;omega,h6,h4,h5⟩,Y0h _,?_⟩
         refine Y07 [0,1,2,3,4,5,6,7,8,9,10,16] rfl rfl ?_ ?_ rfl
         · dsimp only[Z1l,Y0c]
           exact wks
         ·refine Z1o (l:=[16]) (X':=[_]) ?_ ?_ ⟨⟨rfl,rfl,rfl,rfl,Z07 rfl (Z0h [⟨w,pl,nm⟩])⟩,trivial⟩<;>rfl
       · have hl1:(l++[(⟨w,pl,nm⟩:Dc)]).length=l.length+1:=by simp
         refine⟨⟨a::(l++[⟨w,pl,nm⟩]),_,k⟩,⟨h3,by simp only[Y05,hl1];omega,h6,(by simp only[Y01,Y0x,Y02]at h4⊢;exact h4),h5⟩,Y0h _,?_⟩
         refine Y07 [0,1,2,3,4,5,6,7,8,9,10,17] rfl rfl ?_ ?_ rfl
         · dsimp only[Z1l]
           rw[hl1]
           exact wks
         ·refine Z1o (l:=[17]) (X':=[_]) ?_ ?_ ⟨⟨rfl,rfl,rfl,rfl,Z07 hsn (Z0h _)⟩,trivial⟩<;>rfl
     · subst h3
       simp only[gL,LV,Y01,Y02]at q1 q2 h1 h2⊢
       rcases l with _|⟨a,l⟩
       all_goals (try simp only[Y05]at hlk hcl)
       all_goals simp only[Z1l,Z2N]
       all_goals repeat' ((conv=>whnf);first|(exact Or.inl rfl)|(refine Or.inr ?_)|refine exI hx ?_|refine exI (q1 _ rfl) ?_|refine exI (q2 _ rfl) ?_|refine exI (h1 _ rfl) ?_|(refine exG (h2 _ rfl) (λhd=>?_) (λe3=>?_))|(with_reducible refine exW wa ?_)|(with_reducible refine ixJ (s1.i+1) rfl ?_ ?_;focus omega)|(refine apS ?_)|refine stp ?_|with_reducible apply Z01<;>intro h)
       all_goals (conv=>whnf)
       · refine⟨[],[0,1,2,3,4,5,6,7,8,9,10,16],rfl,?_,rfl,rfl,.inl (Z1q rfl)⟩
         rw[Z0c e3]
         refine Zaz (l:=[16]) (X':=[_]) ?_ ?_ ⟨⟨rfl,rfl,rfl,rfl,Y0q (Z07 rfl (Z0h [⟨w,pl,nm⟩]))⟩,trivial⟩<;>rfl
       · have hl1:(l++[(⟨w,pl,nm⟩:Dc)]).length=l.length+1:=by simp
         refine⟨[],[0,1,2,3,4,5,6,7,8,9,10,17],rfl,?_,rfl,rfl,.inl ?_⟩
         · rw[Z0c e3]
           refine Zaz (l:=[17]) (X':=[_]) ?_ ?_ ⟨⟨rfl,rfl,rfl,rfl,Y0q (Z07 hsn (Z0h _))⟩,trivial⟩<;>rfl
         · show Wk _ _ (Z1l 11 (a::(l++[⟨w,pl,nm⟩])))
           dsimp only[Z1l]
           rw[hl1]
           exact Z1q rfl
   · have hd:Z5B T pl s=(⟨Z0Z T s,pl,0⟩,Z0p (Z02 (Z0e T s)) 5 (Z0r T (Z02 (Z0e T s))).pos):=by unfold Z5B;rw[hb,if_pos rfl,if_neg h3]
     rw[hd]at kD
     have e3:((Z0r T (Z02 (Z0e T s))).kind != 3)=true:=by simpa using h3
     have qx:=λX K hX=>Z6N p4 (i:=(Z02 (Z0e T s)).i) (op:=(Z02 (Z0e T s)).op) (X:=X) (K:=K) (e:=5) hg2 (by decide) (kD.trans kE).x rfl rfl hX
     clear p1 p2 p3 p4 rest kD hkw hgw hL hS kE hE hd f2 hb hg2
     simp only[Z02]at hx hlt h3 q2 qx e3
     generalize Z0r T { Z0e T s with i:=(Z0e T s).i+1 }=t at *
     obtain⟨kd,tx,nm,ps⟩:=t
     generalize Z0e T s=s1 at *
     generalize Z0Z T s=w at *
     simp only[gL,LV,gD,Tq.cells,Y01,Y02]at q1 q2 qx hx e3⊢
     have wa:IntKind.i64.wrap (((s1.i+1:Nat):Int)+1)=((s1.i+1+1:Nat):Int):=Z1P (by omega)
     rcases l with _|⟨a,l⟩
     all_goals simp only[Z1l,Z2N]
     all_goals repeat' ((conv=>whnf);first|(exact Or.inl rfl)|(refine Or.inr ?_)|refine exI hx ?_|refine exI (q1 _ rfl) ?_|refine exI (q2 _ rfl) ?_|(refine qx _ _ rfl ?_)|(with_reducible refine exW wa ?_)|(with_reducible refine ixJ (s1.i+1) rfl ?_ ?_;focus omega)|refine stp ?_|with_reducible apply Z01<;>intro h)
end
section
variable {gl:Z0k}
def ZbC:List (List St)->Nat->AV
 |[],_=>.nslice
 |e::l,n=>.slice n 0 (l.length+1) (l.length+1) 1
def Zez:List (List St)->Nat->Z00
 |[],_=>[]
 |e::l,n=>[⟨true,n,0,.cells ((e::l).map stA) 53⟩]
def Zay:List Dc->Nat
 |[]=>13
 |_::_=>14
def pgY(ds:List Dc)(ts:List (List St)):Z00:=[⟨true,11,0,.cells [.nslice,.nslice] 26⟩,⟨true,12,0,.cells [Z1l 13 ds,ZbC ts (Zay ds)] 26⟩]++(Z2N 13 ds++Zez ts (Zay ds))
def pgD(ds:List Dc)(ts:List (List St)):Nat:=Zay ds+(match ts with|[]=>0|_::_=>1)
def ZmQ(ds:List Dc)(ts:List (List St))(D:List Dc):Z00:=[⟨true,11,0,.cells [.nslice,.nslice] 26⟩,⟨true,12,0,.cells [Z1l 13 ds,ZbC ts (Zay ds)] 26⟩]++((match ds with|[]=>[]|_::_=>[⟨false,13,0,.cells [] 0⟩])++(Zez ts (Zay ds)++[⟨true,pgD ds ts,0,.cells (dcC (ds++D)) 66⟩]))
theorem Z22{P:Program}{gl:Z0k}{X:AV->Prop}{f:Nat}{args:List AV}{H H' H2:Z00}{r r2:AV}(h:MemX P gl X f args H r H')(hd:Z8l H'=true):MemX P gl X f args H r2 H2:=λsn ι W cargs hg hR ha =>
 (h sn ι W cargs hg hR ha).mono λe W' h=>h.elim (λ⟨v,sn',ι',e1,e2,e3⟩=>(Z3w e3.rel hd).elim) .inr
theorem Z9K(g:Nat->Nat):∀l:List Dc,renL g (dcC l)=dcC l
 |[]=>rfl
 |d::l=>by
  show _::_::_::renL g (dcC l)=_
  rw[Z9K g l];rfl
theorem Zdu(l:List Dc):refsL (dcC l) []=[]:=Zdc (Z0h l)
theorem Zcx(g:Nat->Nat):∀l:List (List St),renL g (l.map stA)=l.map stA
 |[]=>rfl
 |e::l=>by
  show _::renL g (l.map stA)=_
  rw[Zcx g l];rfl
theorem ZbF{T:List Tq}{i:Nat}{op:Int}{l:List Dc}:∀(b:Nat)(o:AObj),(gL T i op++[⟨true,11,0,.cells (dcC l) 66⟩])[b]? = some o->o.fam=b/\o.alive=true/\Z11 12 (Z3V o.body [])=true:=λb o h=>by
 match b,h with
 |0,h=>cases h;exact⟨rfl,rfl,rfl⟩
 |1,h=>cases h;exact⟨rfl,rfl,rfl⟩
 |2,h=>cases h;exact⟨rfl,rfl,rfl⟩
 |3,h=>cases h;exact⟨rfl,rfl,rfl⟩
 |4,h=>cases h;exact⟨rfl,rfl,rfl⟩
 |5,h=>cases h;exact⟨rfl,rfl,rfl⟩
 |6,h=>cases h;exact⟨rfl,rfl,rfl⟩
 |7,h=>cases h;exact⟨rfl,rfl,rfl⟩
 |8,h=>cases h;exact⟨rfl,rfl,rfl⟩
 |9,h=>cases h;exact⟨rfl,rfl,rfl⟩
 |10,h=>cases h;exact⟨rfl,rfl,rfl⟩
 |11,h=>cases h;exact⟨rfl,rfl,by show Z11 12 (refsL (dcC l) [])=true;rw[Zdu];rfl⟩
 |k+12,h=>cases h
theorem Zol{T:List Tq}{i:Nat}{op:Int}:∀(b:Nat)(o:AObj),(gL T i op++[])[b]? = some o->o.alive=true/\o.fam=b:=λb o h=>by
 match b,h with
 |0,h=>cases h;exact⟨rfl,rfl⟩
 |1,h=>cases h;exact⟨rfl,rfl⟩
 |2,h=>cases h;exact⟨rfl,rfl⟩
 |3,h=>cases h;exact⟨rfl,rfl⟩
 |4,h=>cases h;exact⟨rfl,rfl⟩
 |5,h=>cases h;exact⟨rfl,rfl⟩
 |6,h=>cases h;exact⟨rfl,rfl⟩
 |7,h=>cases h;exact⟨rfl,rfl⟩
 |8,h=>cases h;exact⟨rfl,rfl⟩
 |9,h=>cases h;exact⟨rfl,rfl⟩
 |10,h=>cases h;exact⟨rfl,rfl⟩
 |k+11,h=>cases h
theorem Zat{P:Program}{gl:Z0k}{X:AV->Prop}{k f:Nat}{args:List AV}{H H' H2:Z00}{r r2:AV}(h:MemXQ P gl X k f args H r H')(hd:Z8l H'=true):MemX P gl X f args H r2 H2:=λsn ι W cargs hg hR ha =>
 (h sn ι W cargs hg hR ha).mono λe W' h=>h.elim (λ⟨v,sn',ι',e1,e2,e3⟩=>(Z3w e3.rel hd).elim) .inr
theorem Zjo{E:Ps}:∀(b:Nat)(o:AObj),(gD E)[b]? = some o->Z11 11 (Z3V o.body [])=true:=λb o h=>by
 match b,h with
 |0,h=>cases h;rfl
 |1,h=>cases h;rfl
 |2,h=>cases h;rfl
 |3,h=>cases h;rfl
 |4,h=>cases h;rfl
 |5,h=>cases h;rfl
 |6,h=>cases h;rfl
 |7,h=>cases h;rfl
 |8,h=>cases h;rfl
 |9,h=>cases h;rfl
 |10,h=>cases h;rfl
 |k+11,h=>cases h
theorem ZeG{E:Ps}{ty:TypeId}:∀(b:Nat)(o:AObj),(gD E++[⟨true,11,0,.cells [] ty⟩])[b]? = some o->Z11 12 (Z3V o.body [])=true:=λb o h=>by
 match b,h with
 |0,h=>cases h;rfl
 |1,h=>cases h;rfl
 |2,h=>cases h;rfl
 |3,h=>cases h;rfl
 |4,h=>cases h;rfl
 |5,h=>cases h;rfl
 |6,h=>cases h;rfl
 |7,h=>cases h;rfl
 |8,h=>cases h;rfl
 |9,h=>cases h;rfl
 |10,h=>cases h;rfl
 |11,h=>cases h;rfl
 |k+12,h=>cases h
theorem Zji {T : List Tq} (hT : TqOK T) {s : Ps} (hg : GOK T s) (pl : Bool) (ds : List Dc) (ts : List (List St)) (hl : ds.length + T.length + 1 <= 1000002000001) :
  MemX Y00 gl (XF (Z0E T pl s).2) 58 [.ptr 0 0,Z1l 13 ds,.bool pl] (gL T s.i s.op++pgY ds ts) (.slice (pgD ds ts) 0 (ds++(Z0E T pl s).1).length (ds++(Z0E T pl s).1).length 3) ((cond ((Z0E T pl s).2.err==0) (gL T (Z0E T pl s).2.i (Z0E T pl s).2.op) (gD (Z0E T pl s).2))++ZmQ ds ts (Z0E T pl s).1):=by
 obtain⟨d1,dl,hd,-⟩:=Z42 T pl s
 have hM:=ZlX (gl:=gl) hT hg pl ds hl rfl
 rw[hd]at hM⊢
 generalize (Z0E T pl s).2=E at *
 rw[Z0c hg.er]at hM
 have ht:∃d0 d2,ds++d1::dl=d0::d2:=by
  cases ds with
  |nil=>exact⟨_,_,rfl⟩
  |cons a ds=>exact⟨_,_,rfl⟩
 obtain⟨d0,d2,ht⟩:=ht
 have hlen:(ds++d1::dl).length=d2.length+1:=by rw[ht];rfl
 unfold ZmQ
 simp only[hlen,ht]at hM⊢
 simp only[Z1l,Z2N]at hM
 clear hlen ht hd hl
 by_cases he:E.err=0
 · have e1:(E.err==0)=true:=by simpa using he
   rw[Z0c he]at hM
   rw[e1]
   rcases ds with _|⟨a,ds⟩
   · have h1:=Z9h hM (Y0a _) (by show 11<=12;decide) ZbF Zol rfl
     simp[Zcf,sgE,shE,Z5I,renL,ZhG,ren,Z9K,AObj.dead,gL,LV]at h1
     rcases ts with _|⟨c,ts⟩
     · have h2:=Z2d (m:=M11) (Hc:=gL T s.i s.op++pgY [] []) (cargs:=[.ptr 0 0,.nslice,.bool pl]) h1 (Y0f ⟨Y0d rfl rfl,Y03 rfl,Y0l rfl,trivial⟩) (Z1o (X':=[]) rfl rfl trivial) rfl rfl rfl (Z10 rfl) (λi o h=>by
       match i,h with
       |0,h=>cases h;rfl
       |1,h=>cases h;rfl
       |2,h=>cases h;rfl
       |3,h=>cases h;rfl
       |4,h=>cases h;rfl
       |5,h=>cases h;rfl
       |6,h=>cases h;rfl
       |7,h=>cases h;rfl
       |8,h=>cases h;rfl
       |9,h=>cases h;rfl
       |10,h=>cases h;rfl
       |11,h=>cases h;exact (by show Z11 _ (refsL (dcC _) [])=true;rw[Zdu];rfl)
       |k+12,h=>cases h) rfl
       simp[kil,mem,Z9X,Z5M,shS,sgS,Zcf,sgE,shE,Z5I,renL,ZhG,ren,Z9K,Zcx,AObj.dead,gL,gD,bot,LV,M11,pgY,Zez,ZbC,Zay,Z1l,Z2N]at h2
       exact h2
     · have h2:=Z2d (m:=M11) (Hc:=gL T s.i s.op++pgY [] (c::ts)) (cargs:=[.ptr 0 0,.nslice,.bool pl]) h1 (Y0f ⟨Y0d rfl rfl,Y03 rfl,Y0l rfl,trivial⟩) (Z1o (X':=[]) rfl rfl trivial) rfl rfl rfl (Z10 rfl) (λi o h=>by
       match i,h with
       |0,h=>cases h;rfl
       |1,h=>cases h;rfl
       |2,h=>cases h;rfl
       |3,h=>cases h;rfl
       |4,h=>cases h;rfl
       |5,h=>cases h;rfl
       |6,h=>cases h;rfl
       |7,h=>cases h;rfl
       |8,h=>cases h;rfl
       |9,h=>cases h;rfl
       |10,h=>cases h;rfl
       |11,h=>cases h;exact (by show Z11 _ (refsL (dcC _) [])=true;rw[Zdu];rfl)
       |k+12,h=>cases h) rfl
       simp[kil,mem,Z9X,Z5M,shS,sgS,Zcf,sgE,shE,Z5I,renL,ZhG,ren,Z9K,Zcx,AObj.dead,gL,gD,bot,LV,M11,pgY,Zez,ZbC,Zay,Z1l,Z2N]at h2
       exact h2
   · have h1:=Z9h hM (by show 11<=12;decide) (by show 11<=12;decide) ZbF (λi o h=>⟨(ZbF i o h).2.1,(ZbF i o h).1⟩) rfl
     simp[Zcf,sgE,shE,Z5I,renL,ZhG,ren,Z9K,AObj.dead,gL,LV]at h1
     rcases ts with _|⟨c,ts⟩
     · have h2:=Z2d (m:=[0,1,2,3,4,5,6,7,8,9,10,13]) (Hc:=gL T s.i s.op++pgY (a::ds) []) (cargs:=[.ptr 0 0,.slice 13 0 (ds.length+1) (ds.length+1) 3,.bool pl]) h1 (Y0f ⟨Y0d rfl rfl,Z1q rfl,Y0l rfl,trivial⟩) (Z1o (X':=[_]) (l:=[13]) rfl rfl ⟨⟨rfl,rfl,rfl,rfl,Z07 rfl (Z0h _)⟩,trivial⟩) rfl rfl rfl (Z10 rfl) (λi o h=>by
       match i,h with
       |0,h=>cases h;rfl
       |1,h=>cases h;rfl
       |2,h=>cases h;rfl
       |3,h=>cases h;rfl
       |4,h=>cases h;rfl
       |5,h=>cases h;rfl
       |6,h=>cases h;rfl
       |7,h=>cases h;rfl
       |8,h=>cases h;rfl
       |9,h=>cases h;rfl
       |10,h=>cases h;rfl
       |11,h=>cases h;exact rfl
       |12,h=>cases h;exact (by show Z11 _ (refsL (dcC _) [])=true;rw[Zdu];rfl)
       |k+13,h=>cases h) rfl
       simp[kil,mem,Z9X,Z5M,shS,sgS,Zcf,sgE,shE,Z5I,renL,ZhG,ren,Z9K,Zcx,AObj.dead,gL,gD,bot,LV,M11,pgY,Zez,ZbC,Zay,Z1l,Z2N]at h2
       exact h2
     · have h2:=Z2d (m:=[0,1,2,3,4,5,6,7,8,9,10,13]) (Hc:=gL T s.i s.op++pgY (a::ds) (c::ts)) (cargs:=[.ptr 0 0,.slice 13 0 (ds.length+1) (ds.length+1) 3,.bool pl]) h1 (Y0f ⟨Y0d rfl rfl,Z1q rfl,Y0l rfl,trivial⟩) (Z1o (X':=[_]) (l:=[13]) rfl rfl ⟨⟨rfl,rfl,rfl,rfl,Z07 rfl (Z0h _)⟩,trivial⟩) rfl rfl rfl (Z10 rfl) (λi o h=>by
       match i,h with
       |0,h=>cases h;rfl
       |1,h=>cases h;rfl
       |2,h=>cases h;rfl
       |3,h=>cases h;rfl
       |4,h=>cases h;rfl
       |5,h=>cases h;rfl
       |6,h=>cases h;rfl
       |7,h=>cases h;rfl
       |8,h=>cases h;rfl
       |9,h=>cases h;rfl
       |10,h=>cases h;rfl
       |11,h=>cases h;exact rfl
       |12,h=>cases h;exact (by show Z11 _ (refsL (dcC _) [])=true;rw[Zdu];rfl)
       |k+13,h=>cases h) rfl
       simp[kil,mem,Z9X,Z5M,shS,sgS,Zcf,sgE,shE,Z5I,renL,ZhG,ren,Z9K,Zcx,AObj.dead,gL,gD,bot,LV,M11,pgY,Zez,ZbC,Zay,Z1l,Z2N]at h2
       exact h2
 · have e1:(E.err==0)=false:=by simpa using he
   rw[Z62 he]at hM
   rcases ds with _|⟨a,ds⟩
   · have h1:=Zat (H2:=gD E) (r2:=.tuple []) hM rfl
     rcases ts with _|⟨c,ts⟩
     ·exact Z22 (Z2d (m:=M11) (Hc:=gL T s.i s.op++pgY [] []) (cargs:=[.ptr 0 0,.nslice,.bool pl]) h1 (Y0f ⟨Y0d rfl rfl,Y03 rfl,Y0l rfl,trivial⟩) (Z1o (X':=[]) rfl rfl trivial) rfl rfl rfl (Z10 rfl) Zjo rfl) rfl
     ·exact Z22 (Z2d (m:=M11) (Hc:=gL T s.i s.op++pgY [] (c::ts)) (cargs:=[.ptr 0 0,.nslice,.bool pl]) h1 (Y0f ⟨Y0d rfl rfl,Y03 rfl,Y0l rfl,trivial⟩) (Z1o (X':=[]) rfl rfl trivial) rfl rfl rfl (Z10 rfl) Zjo rfl) rfl
   · have h1:=Zat (H2:=gD E++[⟨true,11,0,.cells [] 66⟩]) (r2:=.tuple []) hM rfl
     rcases ts with _|⟨c,ts⟩
     ·exact Z22 (Z2d (m:=[0,1,2,3,4,5,6,7,8,9,10,13]) (Hc:=gL T s.i s.op++pgY (a::ds) []) (cargs:=[.ptr 0 0,.slice 13 0 (ds.length+1) (ds.length+1) 3,.bool pl]) h1 (Y0f ⟨Y0d rfl rfl,Z1q rfl,Y0l rfl,trivial⟩) (Z1o (X':=[_]) (l:=[13]) rfl rfl ⟨⟨rfl,rfl,rfl,rfl,Z07 rfl (Z0h _)⟩,trivial⟩) rfl rfl rfl (Z10 rfl) ZeG rfl) rfl
     ·exact Z22 (Z2d (m:=[0,1,2,3,4,5,6,7,8,9,10,13]) (Hc:=gL T s.i s.op++pgY (a::ds) (c::ts)) (cargs:=[.ptr 0 0,.slice 13 0 (ds.length+1) (ds.length+1) 3,.bool pl]) h1 (Y0f ⟨Y0d rfl rfl,Z1q rfl,Y0l rfl,trivial⟩) (Z1o (X':=[_]) (l:=[13]) rfl rfl ⟨⟨rfl,rfl,rfl,rfl,Z07 rfl (Z0h _)⟩,trivial⟩) rfl rfl rfl (Z10 rfl) ZeG rfl) rfl
end
section
variable {gl:Z0k}
theorem Zk2:∀{l l':List Dc},dcC l=dcC l'->l=l'
 |[],[],_=>rfl
 |[],d::l,h=>by cases h
 |d::l,[],h=>by cases h
 |⟨a,b,c⟩::l,⟨a',b',c'⟩::l',h=>by
  simp only[dcC,Dc.cells,Y01,Y02,List.cons.injEq,AV.str.injEq,AV.bool.injEq,AV.int.injEq,true_and]at h
  obtain⟨rfl,rfl,rfl,h⟩:=h
  rw[Zk2 h]
structure Gpi where
 pl:Bool
 s:Ps
 ds:List Dc
 ts:List (List St)
def gpO(T:List Tq)(x:Gpi):Z00:=(cond ((Z0E T x.pl x.s).2.err==0) (gL T (Z0E T x.pl x.s).2.i (Z0E T x.pl x.s).2.op) (gD (Z0E T x.pl x.s).2))++ZmQ x.ds x.ts (Z0E T x.pl x.s).1
def gpR(T:List Tq)(x:Gpi):AV:=.slice (pgD x.ds x.ts) 0 (x.ds++(Z0E T x.pl x.s).1).length (x.ds++(Z0E T x.pl x.s).1).length 3
theorem Zqi {T : List Tq} (x y : Gpi) (hx : GOK T x.s /\ x.ds.length + T.length + 1 <= 1000002000001) (hy : GOK T y.s /\ y.ds.length + T.length + 1 <= 1000002000001) (ha : [AV.ptr 0 0, Z1l 13 x.ds, .bool x.pl] = [AV.ptr 0 0, Z1l 13 y.ds, .bool y.pl])
  (hh:gL T x.s.i x.s.op++pgY x.ds x.ts=gL T y.s.i y.s.op++pgY y.ds y.ts):gpR T x=gpR T y/\gpO T x=gpO T y:=by
 obtain⟨pl,s,ds,ts⟩:=x
 obtain⟨pl',s',ds',ts'⟩:=y
 obtain⟨⟨_,e1,e2⟩,_⟩:=hx
 obtain⟨⟨_,e3,e4⟩,_⟩:=hy
 obtain⟨i,er,at_,op⟩:=s
 obtain⟨i',er',at',op'⟩:=s'
 simp only at e1 e2 e3 e4
 subst e1 e2 e3 e4
 have h1:i=i'/\op=op'/\pgY ds ts=pgY ds' ts':=by
  simp only[gL,LV,Y01,Y02,List.cons.injEq,AObj.mk.injEq,ABody.cells.injEq,AV.int.injEq,true_and,and_true]at hh
  exact⟨by omega,hh.1.2,hh.2⟩
 obtain⟨rfl,rfl,hY⟩:=h1
 simp only[List.cons.injEq,AV.bool.injEq,true_and,and_true]at ha
 obtain⟨hd,rfl⟩:=ha
 have h2:ds=ds'/\Zez ts (Zay ds)=Zez ts' (Zay ds)/\ZbC ts (Zay ds)=ZbC ts' (Zay ds):=by
  rcases ds with _|⟨a,ds⟩<;>rcases ds' with _|⟨b,ds'⟩
  · simp only[pgY,Z1l,Z2N,Y02,Y01,List.cons.injEq,AObj.mk.injEq,ABody.cells.injEq,true_and,and_true]at hY
    exact⟨rfl,hY.2,hY.1⟩
  ·cases hd
  ·cases hd
  · simp only[pgY,Z1l,Z2N,Y02,Y01,List.cons.injEq,AObj.mk.injEq,ABody.cells.injEq,true_and,and_true]at hY
    have:=Zk2 hY.2.1
    rw[this]
    exact⟨rfl,hY.2.2,hY.1.2⟩
 obtain⟨rfl,h3,h4⟩:=h2
 have h5:pgD ds ts=pgD ds ts':=by
  rcases ts with _|⟨a,ts⟩<;>rcases ts' with _|⟨b,ts'⟩
  ·rfl
  ·cases h4
  ·cases h4
  ·rfl
 unfold gpR gpO ZmQ
 simp only[h3,h4,h5]
 exact⟨trivial,trivial⟩
def Zoh(T:List Tq)(hT:TqOK T):FamX Y00 gl :=
 have h1:=Zqi (T:=T)
 { I:=Gpi,f:=58,X:=λx=>XF (Z0E T x.pl x.s).2,G:=λx=>GOK T x.s/\x.ds.length+T.length+1<=1000002000001,A:=λx=>[.ptr 0 0,Z1l 13 x.ds,.bool x.pl],H:=λx=>gL T x.s.i x.s.op++pgY x.ds x.ts,R:=gpR T,O:=gpO T,body:=(by kernel_rfl),inj:=h1,ok:=λx h=>Zji hT h.1 x.pl x.ds x.ts h.2 }
theorem Z4h(T:List Tq):∀(k:Nat)(ds:List Dc)(ts:List (List St))(s:Ps),Kr s (Z1k T k ds ts s).2
 |0,_,_,s=>Kr.rfl'
 |k+1,ds,ts,s=>by
  unfold Z1k
  split
  · split
    ·exact (Z0q s).trans ((ZbU T false _).trans (Z4h T k _ _ _))
    split
    ·exact (Z0q s).trans ((ZbU T true _).trans (Z4h T k _ _ _))
    split
    ·exact (Z0q s).trans ((Z9L (Z34 T _) _).trans (Z4h T k _ _ _))
    ·exact (Z2Z _ _ (by decide)).trans (Z4h T k _ _ _)
  ·exact Kr.rfl'
def Zss(f:Nat):Bool:=Y04 f 40 || (Y04 f 57 || (Y04 f 58 || (Y04 f 59 || Y04 f 56)))
theorem Zof{T:List Tq}{s:Ps}(hs:PsOK T s):GX gl T 40 [.ptr 0 0] s (.agg (Z0r T s).cells) s:=by
 refine GX.of λh0=>?_
 have hx:=tq4 T s.i hs.lt
 rw[<- Z0t hs.lt]at hx
 have hlt:=hs.lt
 generalize Z0r T s=t at *
 obtain⟨kd,tx,nm,ps⟩:=t
 obtain⟨i,err,at_,op⟩:=s
 simp only at h0
 subst h0
 simp only[Tq.cells]at hx hlt⊢
 refine Z1N isQ 3 follows Z05 (Z0g (gl:=gl)).x Tryz.func40 rfl ?_
 rw (occs:=.pos [1]) [Z0c (s:=⟨i,0,at_,op⟩) rfl]
 simp only[gL,LV]
 all_goals repeat' ((conv=>whnf);first|(refine Or.inr ?_)|refine exI hx ?_|(with_reducible refine ixJ i rfl ?_ ?_;focus omega)|refine stp ?_|with_reducible apply Z01<;>intro h)
 all_goals (try (conv=>whnf))
 all_goals exact⟨M11,rfl,(by refine Z6I ?_ ?_ ?_<;>rfl),rfl,Y03 rfl⟩
def ZeB(T:List Tq):FamX Y00 gl:=Z9r T 40 (by kernel_rfl) (I:=Unit) (λ_ s=>PsOK T s) (λ_=>[.ptr 0 0]) (λ_ s=>.agg (Z0r T s).cells) (λ_ s=>s) (λ_=>rfl) (λ_ _ _=>rfl) (λ_ s h=>Zof h)
theorem Zs1 {Y : AV -> Prop} {O : Orc} {T : List Tq} (p : (ZeB (gl := gl) T).Ask Y O) {s : Ps} (hs : GOK T s) {X : Z00} (hX : Z08 Z0z X = true) :
  Z06 Y00 O (gL T s.i s.op++X) 40 [.ptr 0 0]=some (.agg (Z0r T s).cells,gL T s.i s.op++X):=by
 have:=Z4Z p () s X hs hs.ok (λu hu=>(Z9V hs.er u hu).elim) hX
 rw[Z0c hs.er]at this
 exact this
theorem Z2e:∀l:List (List St),(l.map stA).all Z8j=true
 |[]=>rfl
 |e::l=>by simp only[List.map_cons,List.all_cons,Z2e l,Bool.and_true];rfl
theorem Zju{H:Z00}{n:Nat}{a b a' b':AV}(h1:frz H n a=some a')(h2:frz H n b=some b'):frz H (n+1) (.agg [a,b])=some (.agg [a',b']):=by
 show (match Z3a (frz H n) [a,b] with|some l=>some (AV.agg l)|none=>none)=_
 simp only[Z3a,h1,h2]
structure Bg7 where
 ds:List Dc
 ts:List (List St)
 s:Ps
 k:Nat
def Z3Z:List (List St)->AV
 |[]=>.nslice
 |e::l=>.rs (l.length+1) 1 ((e::l).map stA)
theorem ZlW {T : List Tq} (hT : TqOK T) {s0 : Ps} (hg0 : GOK T s0) {D : List Dc} {S : List (List St)} {E : Ps} (hP : Z1k T (T.length + 1) [] [] s0 = ((D, S), E)) :
  MemXQ Y00 gl (XF E) 11 28 [.ptr 0 0] (gB T s0) (.agg [dcN D,Z3Z S]) (gB T E):=by
 have hT2:Zcj Y00 24 24=some (53,1,24):=by kernel_rfl
 obtain⟨O,hO,⟨p0,p1,p2,p3,p4,-⟩,-⟩:=Z2w (P:=Y00) (gl:=gl) (XF E) [ZeB T,Z6B T,Zoh T hT,ZeE T 0 (Z6a T) (Zm0 hT),Z2Y T] [] rfl
 have hfew0:=hg0.ok.few
 refine Z0w Zss 3 follows Z05 hO Tryz.func28 rfl ?_
 rw (occs:=.pos [1]) [Z0c hg0.er]
 simp only[gL,LV,Y01,Y02]
 repeat' ((conv=>whnf);first|(exact Or.inl rfl)|(refine Or.inr ?_)|refine stp ?_|with_reducible apply Z01<;>intro h)
 conv=>whnf
 refine⟨Bg7,(λy=>GOK T y.s/\T.length-y.s.i<y.k/\y.ds.length+1000001*y.k<=1000002000001/\y.ts.length+y.k<=1000001/\Z1k T y.k y.ds y.ts y.s=((D,S),E)),(λy=>[(0,.ptr 0 0),(2,.ptr 11 0),(3,.ptr 12 0)]),
  (λy=>gL T y.s.i y.s.op++pgY y.ds y.ts),(λy=>y.k),⟨⟨[],[],s0,T.length+1⟩,⟨hg0,by show T.length-s0.i<T.length+1;omega,by show 0+1000001*(T.length+1)<=1000002000001;omega,by show 0+(T.length+1)<=1000001;omega,hP⟩,?_⟩,?_⟩
 · refine Y07 [0,1,2,3,4,5,6,7,8,9,10,11,12] rfl rfl ?_ ?_ rfl
   ·exact wks
   ·refine Z1o (l:=[11,12]) ?_ ?_ ⟨hbp,hbp,trivial⟩<;>rfl
 clear hP hfew0 hg0
 rintro⟨ds,ts,s,k⟩ ⟨hs,hk,hd,ht,hF⟩
 dsimp only at hs hk hd ht hF
 (try dsimp only)
 have hlt:=hs.ok.lt
 have hfew:=hs.ok.few
 have qn:=λX hX=>Zs1 p0 hs (X:=X) hX
 by_cases h5:(Z0r T s).kind=5
 · have hE:=Z9c (T:=T) (s:=s) (λh=>h.2 h5) k ds ts
   rw[hE]at hF
   simp only[Prod.mk.injEq]at hF
   obtain⟨⟨rfl,rfl⟩,rfl⟩:=hF
   have her:=hs.er
   have hcd:(dcC ds).length=ds.length*3:=Z1T _
   have hct:(ts.map stA).length=ts.length*1:=by simp
   clear p0 p1 p2 p3 p4 hE
   generalize Z0r T s=t at *
   obtain⟨kd,tx,nm,ps⟩:=t
   simp only at h5
   subst h5
   simp only[gL,LV,Tq.cells,Y01,Y02]at qn⊢
   rcases ds with _|⟨a,ds⟩<;>rcases ts with _|⟨c,ts⟩
   all_goals simp only[pgY,Z1l,Z2N,ZbC,Zez,Zay,dcN,Z3Z,Y01,Y02]
   all_goals repeat' ((conv=>whnf);first|(refine Or.inr ?_)|refine exI (qn _ rfl) ?_|refine stp ?_|with_reducible apply Z01<;>intro h)
   all_goals (conv=>whnf)
   ·exact⟨[],M11,rfl,(by refine Z0G ?_ ?_ ?_<;>first|rfl|exact her),rfl,rfl,.inl (Y03 rfl)⟩
   ·exact⟨[13],M11,rfl,(by refine Z0G ?_ ?_ ?_<;>first|rfl|exact her),rfl,rfl,.inr (Zju rfl (Z0B (n:=27) rfl hct (Z2e _)))⟩
   ·exact⟨[13],M11,rfl,(by refine Z0G ?_ ?_ ?_<;>first|rfl|exact her),rfl,rfl,.inr (Zju (Z0B (n:=27) rfl hcd (Z0h _)) rfl)⟩
   ·exact⟨[13,14],M11,rfl,(by refine Z0G ?_ ?_ ?_<;>first|rfl|exact her),rfl,rfl,.inr (Zju (Z0B (n:=27) rfl hcd (Z0h _)) (Z0B (n:=27) rfl hct (Z2e _)))⟩
 obtain⟨k,rfl⟩:∃k',k=k'+1:=⟨k-1,by omega⟩
 unfold Z1k at hF
 rw[if_pos ⟨hs.er,h5⟩]at hF
 have e5:((Z0r T s).kind != 5)=true:=by simpa using h5
 have fk:=λw hw=>Z4Y hT hs.ok hs.er (w:=w) hw
 have qt:=λw (h:gis T s 2 w=true) X hX=>Znk p1 hs h (λu hu=>(Z9V (s:=Z02 s) hs.er u hu).elim) (X:=X) hX
 have qf:=λw (h:gis T s 2 w=false) X hX=>ZhK p1 hs h (X:=X) hX
 have dec : ∀ (pl : Bool), GOK T (Z02 s) -> Z1k T k (ds ++ (Z0E T pl (Z02 s)).1) ts (Z0E T pl (Z02 s)).2 = ((D, S), E) ->
   (Z06 Y00 O (gL T (s.i+1) s.op++pgY ds ts) 58 [.ptr 0 0,Z1l 13 ds,.bool pl]=some (gpR T ⟨pl,Z02 s,ds,ts⟩,gpO T ⟨pl,Z02 s,ds,ts⟩)) /\
   ((Z0E T pl (Z02 s)).2.err=0->GOK T (Z0E T pl (Z02 s)).2/\T.length-(Z0E T pl (Z02 s)).2.i<k):=by
  intro pl hg h
  have kr:=Z4h T k (ds++(Z0E T pl (Z02 s)).1) ts (Z0E T pl (Z02 s)).2
  rw[h]at kr
  have g2:=Z6Q pl hg.ok
  have hon:s.i+1<=(Z0E T pl (Z02 s)).2.i:=g2.on
  refine⟨p2 ⟨pl,Z02 s,ds,ts⟩ ⟨hg,by show ds.length+T.length+1<=1000002000001;omega⟩ kr.x,λhe=>⟨hg.go g2 (ZbU T pl _) he,by omega⟩⟩
 cases h1:isF T s Z7p with
 |true =>
  rw[h1,if_pos rfl]at hF
  have hgs:GOK T (Z02 s):=hs.go (Z0b hs.ok h1) (Z0q s) hs.er
  have m1:=qt _ ((fk _ rfl).trans h1)
  obtain⟨qd,hg2⟩:=dec false hgs hF
  obtain⟨d1,dl,hd1,hd2⟩:=Z42 T false (Z02 s)
  clear p0 p1 p2 p3 p4 dec qt qf fk
  unfold gpR gpO at qd
  simp only at qd
  rw[hd1]at qd hF
  generalize Z0E T false (Z02 s)=r at *
  obtain⟨rd,s2⟩:=r
  generalize Z0r T s=t at *
  obtain⟨kd,tx,nm,ps⟩:=t
  simp only[Tq.cells]at qd hF hg2 e5 qn
  by_cases e2:s2.err=0
  · have e3:(s2.err==0)=true:=by simpa using e2
    rw[e3]at qd
    obtain⟨hg3,hk3⟩:=hg2 e2
    simp only[gL,LV,cond_true,Y01,Y02]at qd qn m1⊢
    rcases ds with _|⟨a,ds⟩<;>rcases ts with _|⟨c,ts⟩
    all_goals simp only[pgY,ZmQ,pgD,Z1l,Z2N,ZbC,Zez,Zay,Y01,Y02,Y0m,Y0z]at qd⊢
    all_goals repeat' ((conv=>whnf);first|(refine Or.inr ?_)|refine exI (qn _ rfl) ?_|refine exI (m1 _ rfl) ?_|refine exI qd ?_|refine stp ?_|with_reducible apply Z01<;>intro h)
    all_goals (conv=>whnf)
    all_goals refine⟨⟨_++d1::dl,_,s2,k⟩,⟨hg3,hk3,by simp only[Y0k,Y05,Y0c]at hd⊢;omega,by simp only[Y05,Y0c]at ht⊢;omega,hF⟩,Y0h _,?_⟩
    · refine Y07 [0,1,2,3,4,5,6,7,8,9,10,11,12,13] rfl rfl ?_ ?_ rfl
      ·exact wks
      ·exact Z1o (l:=[11,12,13]) rfl rfl ⟨hbp,⟨rfl,rfl,rfl,rfl,Y09 ⟨Z1q rfl,Y03 rfl,trivial⟩⟩,⟨rfl,rfl,rfl,rfl,Z07 rfl (Z0h _)⟩,trivial⟩
    · refine Y07 [0,1,2,3,4,5,6,7,8,9,10,11,12,14,13] rfl rfl ?_ ?_ rfl
      ·exact wks
      ·exact Z1o (l:=[11,12,14,13]) rfl rfl ⟨hbp,⟨rfl,rfl,rfl,rfl,Y09 ⟨Z1q rfl,Z1q rfl,trivial⟩⟩,⟨rfl,rfl,rfl,rfl,Z07 rfl (Z0h _)⟩,⟨rfl,rfl,rfl,rfl,Z07 rfl (Z2e _)⟩,trivial⟩
    · refine Y07 [0,1,2,3,4,5,6,7,8,9,10,11,12,14] rfl rfl ?_ ?_ rfl
      ·exact wks
      ·exact Z1o (l:=[11,12,14]) rfl rfl ⟨hbp,⟨rfl,rfl,rfl,rfl,Y09 ⟨Z1q rfl,Y03 rfl,trivial⟩⟩,⟨rfl,rfl,rfl,rfl,Z07 rfl (Z0h _)⟩,trivial⟩
    · refine Y07 [0,1,2,3,4,5,6,7,8,9,10,11,12,15,14] rfl rfl ?_ ?_ rfl
      ·exact wks
      ·exact Z1o (l:=[11,12,15,14]) rfl rfl ⟨hbp,⟨rfl,rfl,rfl,rfl,Y09 ⟨Z1q rfl,Z1q rfl,trivial⟩⟩,⟨rfl,rfl,rfl,rfl,Z07 rfl (Z0h _)⟩,⟨rfl,rfl,rfl,rfl,Z07 rfl (Z2e _)⟩,trivial⟩
  · have e3:(s2.err==0)=false:=by simpa using e2
    rw[e3]at qd
    simp only[gL,LV,gD,cond_false,Y01,Y02]at qd qn m1⊢
    rcases ds with _|⟨a,ds⟩<;>rcases ts with _|⟨c,ts⟩
    all_goals simp only[pgY,ZmQ,pgD,Z1l,Z2N,ZbC,Zez,Zay,Y01,Y02,Y0m,Y0z]at qd⊢
    all_goals repeat' ((conv=>whnf);first|(exact Or.inl rfl)|(refine Or.inr ?_)|refine exI (qn _ rfl) ?_|refine exI (m1 _ rfl) ?_|refine exI qd ?_|refine stp ?_|with_reducible apply Z01<;>intro h)
 |false =>
 rw[h1,if_neg (by decide)]at hF
 have m1:=qf _ ((fk _ rfl).trans h1)
 cases h2:isF T s Zaw with
 |true =>
  rw[h2,if_pos rfl]at hF
  have hgs:GOK T (Z02 s):=hs.go (Z0b hs.ok h2) (Z0q s) hs.er
  have m2:=qt _ ((fk _ rfl).trans h2)
  obtain⟨qd,hg2⟩:=dec true hgs hF
  obtain⟨d1,dl,hd1,hd2⟩:=Z42 T true (Z02 s)
  clear p0 p1 p2 p3 p4 dec qt qf fk
  unfold gpR gpO at qd
  simp only at qd
  rw[hd1]at qd hF
  generalize Z0E T true (Z02 s)=r at *
  obtain⟨rd,s2⟩:=r
  generalize Z0r T s=t at *
  obtain⟨kd,tx,nm,ps⟩:=t
  simp only[Tq.cells]at qd hF hg2 e5 qn
  by_cases e2:s2.err=0
  · have e3:(s2.err==0)=true:=by simpa using e2
    rw[e3]at qd
    obtain⟨hg3,hk3⟩:=hg2 e2
    simp only[gL,LV,cond_true,Y01,Y02]at qd qn m1 m2⊢
    rcases ds with _|⟨a,ds⟩<;>rcases ts with _|⟨c,ts⟩
    all_goals simp only[pgY,ZmQ,pgD,Z1l,Z2N,ZbC,Zez,Zay,Y01,Y02,Y0m,Y0z]at qd⊢
    all_goals repeat' ((conv=>whnf);first|(refine Or.inr ?_)|refine exI (qn _ rfl) ?_|refine exI (m1 _ rfl) ?_|refine exI (m2 _ rfl) ?_|refine exI qd ?_|refine stp ?_|with_reducible apply Z01<;>intro h)
    all_goals (conv=>whnf)
    all_goals refine⟨⟨_++d1::dl,_,s2,k⟩,⟨hg3,hk3,by simp only[Y0k,Y05,Y0c]at hd⊢;omega,by simp only[Y05,Y0c]at ht⊢;omega,hF⟩,Y0h _,?_⟩
    · refine Y07 [0,1,2,3,4,5,6,7,8,9,10,11,12,13] rfl rfl ?_ ?_ rfl
      ·exact wks
      ·exact Z1o (l:=[11,12,13]) rfl rfl ⟨hbp,⟨rfl,rfl,rfl,rfl,Y09 ⟨Z1q rfl,Y03 rfl,trivial⟩⟩,⟨rfl,rfl,rfl,rfl,Z07 rfl (Z0h _)⟩,trivial⟩
    · refine Y07 [0,1,2,3,4,5,6,7,8,9,10,11,12,14,13] rfl rfl ?_ ?_ rfl
      ·exact wks
      ·exact Z1o (l:=[11,12,14,13]) rfl rfl ⟨hbp,⟨rfl,rfl,rfl,rfl,Y09 ⟨Z1q rfl,Z1q rfl,trivial⟩⟩,⟨rfl,rfl,rfl,rfl,Z07 rfl (Z0h _)⟩,⟨rfl,rfl,rfl,rfl,Z07 rfl (Z2e _)⟩,trivial⟩
    · refine Y07 [0,1,2,3,4,5,6,7,8,9,10,11,12,14] rfl rfl ?_ ?_ rfl
      ·exact wks
      ·exact Z1o (l:=[11,12,14]) rfl rfl ⟨hbp,⟨rfl,rfl,rfl,rfl,Y09 ⟨Z1q rfl,Y03 rfl,trivial⟩⟩,⟨rfl,rfl,rfl,rfl,Z07 rfl (Z0h _)⟩,trivial⟩
    · refine Y07 [0,1,2,3,4,5,6,7,8,9,10,11,12,15,14] rfl rfl ?_ ?_ rfl
      ·exact wks
      ·exact Z1o (l:=[11,12,15,14]) rfl rfl ⟨hbp,⟨rfl,rfl,rfl,rfl,Y09 ⟨Z1q rfl,Z1q rfl,trivial⟩⟩,⟨rfl,rfl,rfl,rfl,Z07 rfl (Z0h _)⟩,⟨rfl,rfl,rfl,rfl,Z07 rfl (Z2e _)⟩,trivial⟩
  · have e3:(s2.err==0)=false:=by simpa using e2
    rw[e3]at qd
    simp only[gL,LV,gD,cond_false,Y01,Y02]at qd qn m1 m2⊢
    rcases ds with _|⟨a,ds⟩<;>rcases ts with _|⟨c,ts⟩
    all_goals simp only[pgY,ZmQ,pgD,Z1l,Z2N,ZbC,Zez,Zay,Y01,Y02,Y0m,Y0z]at qd⊢
    all_goals repeat' ((conv=>whnf);first|(exact Or.inl rfl)|(refine Or.inr ?_)|refine exI (qn _ rfl) ?_|refine exI (m1 _ rfl) ?_|refine exI (m2 _ rfl) ?_|refine exI qd ?_|refine stp ?_|with_reducible apply Z01<;>intro h)
 |false =>
 rw[h2,if_neg (by decide)]at hF
 have m2:=qf _ ((fk _ rfl).trans h2)
 cases h3:isF T s Z7o with
 |true =>
  rw[h3,if_pos rfl]at hF
  have hgs:GOK T (Z02 s):=hs.go (Z0b hs.ok h3) (Z0q s) hs.er
  have m3:=qt _ ((fk _ rfl).trans h3)
  have kb:=Z9L (T:=T) (Z34 T T.length) (Z02 s)
  have kr:=Z4h T k ds (ts++[(Z6a T (Z02 s)).1]) (Z6a T (Z02 s)).2
  rw[hF]at kr
  have gb:=(ZbX (gl:=gl) T (Z02 s) hgs.ok (Y0n _)).1
  have hon:s.i+1<=(Z6a T (Z02 s)).2.i:=gb.on
  have hg3:(Z6a T (Z02 s)).2.err=0->GOK T (Z6a T (Z02 s)).2:=λhe=>hgs.go gb kb he
  have hk3:(Z6a T (Z02 s)).2.err=0->T.length-(Z6a T (Z02 s)).2.i<k:=λhe=>by omega
  have qb:∀X,Z08 Z0z X=true->Z06 Y00 O (gL T (s.i+1) s.op++X) 59 [.ptr 0 0]=some (stA (Z6a T (Z02 s)).1,gB T (Z6a T (Z02 s)).2++X):=λX hX=>Z4Z p3 () (Z02 s) X hgs ⟨hgs,Y0n _⟩ kr.x hX
  clear p0 p1 p2 p3 p4 dec qt qf fk kb gb kr hon
  generalize Z6a T (Z02 s)=r at *
  obtain⟨tl,s2⟩:=r
  generalize Z0r T s=t at *
  obtain⟨kd,tx,nm,ps⟩:=t
  have hct:(ts.map stA).length=ts.length*1:=by simp
  have hsn:ts.map stA++[stA tl]=(ts++[tl]).map stA:=by simp
  simp only[gL,LV,Tq.cells,stA,Y01,Y02]at qn m1 m2 m3 qb hF hg3 hk3 e5⊢
  rcases ds with _|⟨a,ds⟩<;>rcases ts with _|⟨c,ts⟩
  all_goals simp only[pgY,Z1l,Z2N,ZbC,Zez,Zay,Y01,Y02,Y0m]
  all_goals (try simp only[Y05]at ht hct)
  all_goals repeat' ((conv=>whnf);first|(exact Or.inl rfl)|(refine Or.inr ?_)|refine exI (qn _ rfl) ?_|refine exI (m1 _ rfl) ?_|refine exI (m2 _ rfl) ?_|refine exI (m3 _ rfl) ?_|(refine exG (qb _ rfl) (λhd=>?_) (λe1=>?_))|(refine apS ?_)|refine stp ?_|with_reducible apply Z01<;>intro h)
  all_goals (conv=>whnf)
  · refine⟨⟨[],[tl],s2,k⟩,⟨hg3 e1,hk3 e1,(by simp only[Y0c,Y05]at hd⊢;omega),(by simp only[Y05,Y0c]at ht⊢;omega),hF⟩,Y0h _,?_⟩
    refine Y07 [0,1,2,3,4,5,6,7,8,9,10,11,12,14] rfl rfl ?_ ?_ rfl
    ·exact wks
    ·exact Z1o (l:=[11,12,14]) rfl rfl ⟨hbp,⟨rfl,rfl,rfl,rfl,Y09 ⟨Y03 rfl,Z1q rfl,trivial⟩⟩,⟨rfl,rfl,rfl,rfl,Z07 rfl (Z2e [tl])⟩,trivial⟩
  · have hl1:(ts++[tl]).length=ts.length+1:=by simp
    refine⟨⟨[],c::(ts++[tl]),s2,k⟩,⟨hg3 e1,hk3 e1,(by simp only[Y0c,Y05]at hd⊢;omega),(by simp only[Y05,hl1]at ht⊢;omega),hF⟩,Y0h _,?_⟩
    refine Y07 [0,1,2,3,4,5,6,7,8,9,10,11,12,15] rfl rfl ?_ ?_ rfl
    ·exact wks
    ·exact Z1o (l:=[11,12,15]) rfl rfl ⟨hbp,⟨rfl,rfl,rfl,rfl,Y09 ⟨Y03 rfl,(by show Wk _ _ (ZbC (c::(ts++[tl])) _);dsimp only[ZbC];rw[hl1];exact Z1q rfl),trivial⟩⟩,⟨rfl,rfl,rfl,rfl,Z07 hsn (Z2e _)⟩,trivial⟩
  · refine⟨⟨(a::ds),[tl],s2,k⟩,⟨hg3 e1,hk3 e1,(by simp only[Y0c,Y05]at hd⊢;omega),(by simp only[Y05,Y0c]at ht⊢;omega),hF⟩,Y0h _,?_⟩
    refine Y07 [0,1,2,3,4,5,6,7,8,9,10,11,12,13,15] rfl rfl ?_ ?_ rfl
    ·exact wks
    ·exact Z1o (l:=[11,12,13,15]) rfl rfl ⟨hbp,⟨rfl,rfl,rfl,rfl,Y09 ⟨Z1q rfl,Z1q rfl,trivial⟩⟩,⟨rfl,rfl,rfl,rfl,Z07 rfl (Z0h _)⟩,⟨rfl,rfl,rfl,rfl,Z07 rfl (Z2e [tl])⟩,trivial⟩
  · have hl1:(ts++[tl]).length=ts.length+1:=by simp
    refine⟨⟨(a::ds),c::(ts++[tl]),s2,k⟩,⟨hg3 e1,hk3 e1,(by simp only[Y0c,Y05]at hd⊢;omega),(by simp only[Y05,hl1]at ht⊢;omega),hF⟩,Y0h _,?_⟩
    refine Y07 [0,1,2,3,4,5,6,7,8,9,10,11,12,13,16] rfl rfl ?_ ?_ rfl
    ·exact wks
    ·exact Z1o (l:=[11,12,13,16]) rfl rfl ⟨hbp,⟨rfl,rfl,rfl,rfl,Y09 ⟨Z1q rfl,(by show Wk _ _ (ZbC (c::(ts++[tl])) _);dsimp only[ZbC];rw[hl1];exact Z1q rfl),trivial⟩⟩,⟨rfl,rfl,rfl,rfl,Z07 rfl (Z0h _)⟩,⟨rfl,rfl,rfl,rfl,Z07 hsn (Z2e _)⟩,trivial⟩
 |false =>
  rw[h3,if_neg (by decide)]at hF
  have m3:=qf _ ((fk _ rfl).trans h3)
  have kr:=Z4h T k ds ts (Z0p s 5 (Z0r T s).pos)
  rw[hF]at kr
  have qx:=λX K hX=>Z6N p4 (i:=s.i) (op:=s.op) (X:=X) (K:=K) (e:=5) hs (by decide) kr.x rfl rfl hX
  clear p0 p1 p2 p3 p4 dec qt qf fk kr hF
  generalize Z0r T s=t at *
  obtain⟨kd,tx,nm,ps⟩:=t
  simp only[gL,LV,gD,Tq.cells,Y01,Y02]at qn m1 m2 m3 qx e5⊢
  rcases ds with _|⟨a,ds⟩<;>rcases ts with _|⟨c,ts⟩
  all_goals simp only[pgY,Z1l,Z2N,ZbC,Zez,Zay,Y01,Y02,Y0m]
  all_goals repeat' ((conv=>whnf);first|(exact Or.inl rfl)|(refine Or.inr ?_)|refine exI (qn _ rfl) ?_|refine exI (m1 _ rfl) ?_|refine exI (m2 _ rfl) ?_|refine exI (m3 _ rfl) ?_|(refine qx _ _ rfl ?_)|refine stp ?_|with_reducible apply Z01<;>intro h)
end
end Go.Proofs.YtneoiadnbikciaaGreatDoor.lex
section
namespace Go.Abs
open Go.RowKit
theorem ZcL(a:Act){d:Option Tmp}{t:Nat}(v:Value)(h:d≠some t):(a.put d v).tmps[t]? = a.tmps[t]?:=by
 cases d with
 |none=>rfl
 |some d =>
  have:d≠t:=λe=>h (by rw[e])
  simp[Act.put,this]
theorem ZfF(a:Act)(d:Option Tmp)(v:Value):(a.put d v).tmps.size=a.tmps.size:=by
 cases d with
 |none=>rfl
 |some d=>simp[Act.put]
theorem Z4m {X : AV -> Prop} {P : Program} {gl : Z0k} {orc : Orc} {rd : Option Nat} {t : Nat} (hn : NoNum P) (hO : OrcSoundX X P gl orc) (ops : Array Oper) : ∀ (l : List Oper) (tm : Tr) (H : Z00) (tm' : Tr) (H' : Z00) (a : Act) (W : World) (sn : Z0o) (ι : Z0n),
  (∀o∈l,o.dst≠some t)->Zgz P gl orc ops.toList l tm H=some (tm',H')->GlOK gl sn->R sn ι H W->TRel sn ι tm a->∀{Q:Exit->Act->World->Prop},
  (∀a' W' sn' ι',Stp sn ι H W sn' ι' H' W'->TRel sn' ι' tm' a'->a'.defers=a.defers->Q .normal a' W')->(∀a' ch W',a'.defers=a.defers->a'.tmps[t]? = a.tmps[t]?->a'.tmps.size=a.tmps.size->PanR X sn ι H W ch W'->Q (.panic ch) a' W')->wpListIn (Fq rd) 0 P ops Q l a W
 |[],tm,H,tm',H',a,W,sn,ι,hd,h,hg,hR,ht,Q,hQ,hP=>by
  simp[Zgz]at h;obtain⟨rfl,rfl⟩:=h
  exact wpListIn_nil (hQ a W sn ι (Stp.refl hR) ht rfl)
 |o::l,tm,H,tm',H',a,W,sn,ι,hd,h,hg,hR,ht,Q,hQ,hP=>by
  have hd0:=hd o (List.mem_cons_self ..)
  have hd1:∀o∈l,o.dst≠some t:=λo ho=>hd o (List.mem_cons_of_mem _ ho)
  refine wpListIn_step λK hK=>?_
  simp only[Zgz]at h
  split at h
  · rename_i hw
    rw[if_pos (Z31 ht ops o hw)]
    split at h<;>try (simp at h;done)
    rename_i r H1 hop
    simp only[Z3c]at h
    split at h<;>try (simp at h;done)
    rename_i tm1 hp
    refine Z44 hn hO hg hR (Z1e hg ht) hop (λv W' sn' ι' hv hst=>hK _ _ ?_) (λch W' p=>hP a ch W' rfl rfl rfl p)
    refine Z4m hn hO ops l _ _ _ _ _ _ sn' ι' hd1 h (hg.mono hst.le) hst.rel (Z2r (ht.mono hst.le) hv hp) (λa' W'' sn'' ι'' hst' ht' hd=>?_) (λa' ch W'' hd ht hz p=>hP a' ch W'' (hd.trans (Act.put_defers' _ _ _)) (ht.trans (ZcL _ _ hd0)) (hz.trans (ZfF _ _ _)) (p.back hR hst))
    exact hQ a' W'' sn'' ι'' (hst.trans hR hst') ht' (hd.trans (Act.put_defers' _ _ _))
  · rename_i hw
    rw[if_neg (by rw[Z31 ht ops o hw];simp)]
    split at h<;>try (simp at h;done)
    rename_i tm1 hp
    refine⟨λf _=>trivial,hK _ _ (Z4m hn hO ops l _ _ _ _ _ _ sn ι hd1 h hg hR (Z2r ht Z4a hp) (λa' W'' sn'' ι'' hst' ht' hd=>?_) (λa' ch W'' hd ht hz p=>hP a' ch W'' (hd.trans (Act.put_defers' _ _ _)) (ht.trans (ZcL _ _ hd0)) (hz.trans (ZfF _ _ _)) p))⟩
    exact hQ a' W'' sn'' ι'' hst' ht' (hd.trans (Act.put_defers' _ _ _))
  ·simp at h
def ZpV(b:Nat)(H:Z00):Z00:=kil (λi _=>Y04 i b) 0 H
theorem Z5p{b:Nat}{H:Z00}{i:Nat}{o:AObj}(h:(ZpV b H)[i]? = some o)(ha:o.alive=true):H[i]? = some o/\i≠b:=by
 obtain⟨o1,e1,_,_,e4⟩:=Z2F h
 obtain⟨rfl,h2⟩:=e4 ha
 exact⟨e1,λe=>by rw[e,Nat.beq_refl]at h2;cases h2⟩
section
variable {sn:Z0o} {ι : Z0n} {H:Z00} {W:World} {b:Nat} {o:AObj} {p:Place}
theorem ZfT(hR:R sn ι H W)(hb:H[b]? = some o)(ha:o.alive=true)(hp : ι b=some p)(hl:∀(i:Nat)(x:AObj),H[i]? = some x->x.alive=true->i≠b->x.fam≠o.fam):∀(i:Nat)(x:AObj)(q:Place),(ZpV b H)[i]? = some x->x.alive=true -> ι i=some q->q.blk≠p.blk:=λi x q hi hx hq e=>by
 obtain⟨h1,h2⟩:=Z5p hi hx
 exact hl i x h1 hx h2 (hR.sep i b x o q p h1 hb hx ha hq hp e).1
theorem ZpP {k : Nat} {sn1 : Z0o} {ι1 : Z0n} {H1 : Z00} {W1 : World} {x : AObj} (hR : R sn ι H W) (hb : H[b]? = some o) (ha : o.alive = true) (hbk : b < k) (hnr : Z3V o.body [] = []) (hl : ∀ (i : Nat) (x : AObj), H[i]? = some x -> x.alive = true -> i ≠ b -> x.fam ≠ o.fam)
  (s:Stq k sn ι (ZpV b H) W sn1 ι1 H1 W1) (hx:H1[b]? = some x) (hd:x.alive=false) (hfam:∀(i:Nat)(y:AObj),H1[i]? = some y->y.alive=true->y.fam≠o.fam):Stq k sn ι H W sn1 ι1 (H1.set b o) W1:=by
 obtain⟨p,hp⟩:=hR.place hb
 have hlone:=ZfT hR hb ha hp hl
 have hp1:=s.keep b p hbk hp
 have hW:W1.heap[p.blk]? = W.heap[p.blk]?:=s.frame p.blk (hR.blk b p hp) hlone
 have hbl:b<H1.length:=(Y0i.1 hx).1
 have get:∀(i:Nat)(y:AObj),(H1.set b o)[i]? = some y->(i=b/\y=o)\/(i≠b/\H1[i]? = some y):=λi y h=>by
  rw[List.getElem?_set]at h
  split at h
  · rename_i e
    subst e
    simp only[hbl,if_true,Option.some.injEq]at h
    exact .inl ⟨rfl,h.symm⟩
  · rename_i e
    exact .inr ⟨λh=>e h.symm,h⟩
 have far:∀(i:Nat)(y:AObj)(q:Place),H1[i]? = some y->y.alive=true -> ι1 i=some q->q.blk≠p.blk:=λi y q hi hy hq e=>by
  rcases s.fresh i y q hi hy hq with h|⟨b0,o0,p0,h1,h2,h3,h4⟩
  ·have:=hR.blk b p hp;omega
  ·exact hlone b0 o0 p0 h1 h2 h3 (h4.trans e)
 refine⟨⟨λi=>by rw[List.length_set];exact s.rel.dom i,s.rel.blk,λi y q hi hy hq=>?_,λi j y z q q' hi hj hy hz hq hq' e=>?_,λa v hv=>?_,λi y q hi hq e=>?_⟩,s.le,λi y q hi hy hq=>?_,λc hc hno=>s.frame c hc λi y q hi hy hq=>hno i y q (Z5p hi hy).1 hy hq,s.size,s.os,s.tape,s.output,λa v hv=>?_,s.keep⟩
 · rcases get i y hi with ⟨rfl,rfl⟩|⟨hne,hi⟩
   · rw[hp1]at hq;cases hq
     refine Z2B _ _ (λz hz=>by rw[hnr]at hz;cases hz) (Z0P (ι:=ι) ⟨s.le,λ_ _ h=>h⟩ hW (hR.obj i y p hb ha hp))
   ·exact s.rel.obj i y q hi hy hq
 · rcases get i y hi with ⟨e1,e2⟩|⟨hne,hi2⟩<;>rcases get j z hj with ⟨e3,e4⟩|⟨hne',hj2⟩
   · rw[e1]at hq
     rw[e3,hq]at hq';cases hq';rw[e2,e4];exact⟨rfl,rfl⟩
   · rw[e1,hp1]at hq;cases hq
     exact (far j z q' hj2 hz hq' e.symm).elim
   · rw[e3,hp1]at hq';cases hq'
     exact (far i y q hi2 hy hq e).elim
   ·exact s.rel.sep i j y z q q' hi2 hj2 hy hz hq hq' e
 · obtain⟨h1,h2,h3⟩:=s.rel.snap a v hv
   refine⟨h1,h2,λi y q hi hy hq=>?_⟩
   rcases get i y hi with ⟨rfl,rfl⟩|⟨hne,hi⟩
   · rw[hp1]at hq;cases hq
     intro e
     rcases s.sfresh a v hv with h|h|⟨b0,o0,p0,g1,g2,g3,g4⟩
     ·exact (hR.snap a v h).2.2 i y p hb ha hp e
     ·have:=hR.blk i p hp;omega
     ·exact hlone b0 o0 p0 g1 g2 g3 (g4.trans e.symm)
   ·exact h3 i y q hi hy hq
 · rcases get i y hi with ⟨rfl,rfl⟩|⟨hne,hi⟩
   · rw[hp1]at hq;cases hq
     exact hR.shz i y p hb hp e
   ·exact s.rel.shz i y q hi hq e
 · rcases get i y hi with ⟨rfl,rfl⟩|⟨hne,hi⟩
   · rw[hp1]at hq;cases hq
     exact .inr ⟨i,y,p,hb,ha,hp,rfl⟩
   · rcases s.fresh i y q hi hy hq with h|⟨b0,o0,p0,h1,h2,h3,h4⟩
     ·exact .inl h
     ·exact .inr ⟨b0,o0,p0,(Z5p h1 h2).1,h2,h3,h4⟩
 · rcases s.sfresh a v hv with h|h|⟨b0,o0,p0,h1,h2,h3,h4⟩
   ·exact .inl h
   ·exact .inr (.inl h)
   ·exact .inr (.inr ⟨b0,o0,p0,(Z5p h1 h2).1,h2,h3,h4⟩)
theorem Zlu {X : AV -> Prop} {o1 : AObj} {ch : List PanicEntry} {W1 : World} (hR : R sn ι H W) (h0 : H[0]? = some o1) (hb : H[1]? = some o) (ha : o.alive = true) (hnr : Z3V o.body [] = []) (hl : ∀ (i : Nat) (x : AObj), H[i]? = some x -> x.alive = true -> i ≠ 1 -> x.fam ≠ o.fam)
  (s:PanR X sn ι (ZpV 1 H) W ch W1):Stq 2 sn ι H W sn (λi=>if i<2 then ι i else none) [o1.dead,o] W1:=by
 obtain⟨u,v,_,_,_,hf,hsz,hos,htp,hout⟩:=s
 obtain⟨p,hp⟩:=hR.place hb
 obtain⟨p0,hp0⟩:=hR.place h0
 have hlone:=ZfT hR hb ha hp hl
 have hW:W1.heap[p.blk]? = W.heap[p.blk]?:=hf p.blk (hR.blk 1 p hp) hlone
 have get:∀(i:Nat)(y:AObj),[o1.dead,o][i]? = some y->(i=0/\y=o1.dead)\/(i=1/\y=o):=λi y h=>by
  match i,h with
  |0,h=>cases h;exact .inl ⟨rfl,rfl⟩
  |1,h=>cases h;exact .inr ⟨rfl,rfl⟩
  |i+2,h=>cases h
 have hι : ∀(i:Nat)(q:Place),(if i<2 then ι i else none)=some q->i<2 /\ ι i=some q:=λi q h=>by
  split at h
  ·exact⟨by assumption,h⟩
  ·cases h
 have hdd:o1.dead.alive=true->False:=λh=>by cases h
 refine⟨⟨λi=>⟨λhi=>?_,λ⟨q,hq⟩=>(hι i q hq).1⟩,λi q hq=>Y0p (hR.blk i q (hι i q hq).2) hsz,λi y q hi hy hq=>?_,λi j y z q q' hi hj hy hz hq hq' e=>?_,λa v hv=>?_,λi y q hi hq e=>?_⟩,λ_ _ h=>h,λi y q hi hy hq=>?_,λc hc hno=>hf c hc λi y q hi hy hq=>hno i y q (Z5p hi hy).1 hy hq,hsz,hos,htp,hout,λa v hv=>.inl hv,λi q hi hq=>by rw[if_pos hi];exact hq⟩
 · have:i<2:=hi
   rw[if_pos this]
   exact (hR.dom i).1 (by have:=(Y0i.1 hb).1;omega)
 · rcases get i y hi with ⟨rfl,rfl⟩|⟨rfl,rfl⟩
   ·exact (hdd hy).elim
   · have hq : ι 1=some q:=(hι 1 q hq).2
     rw[hp]at hq;cases hq
     exact Z2B _ _ (λz hz=>by rw[hnr]at hz;cases hz) (Z0P (ι:=ι) ⟨λ_ _ h=>h,λ_ _ h=>h⟩ hW (hR.obj 1 y p hb ha hp))
 · rcases get i y hi with ⟨rfl,rfl⟩|⟨rfl,rfl⟩
   ·exact (hdd hy).elim
   rcases get j z hj with ⟨rfl,rfl⟩|⟨rfl,rfl⟩
   ·exact (hdd hz).elim
   rw[hq]at hq';cases hq';exact⟨rfl,rfl⟩
 · obtain⟨h1,h2,h3⟩:=hR.snap a v hv
   refine⟨Y0p h1 hsz,?_,λi y q hi hy hq=>?_⟩
   · have e:=hf a.block h1 λi y q hi hy hq=>h3 i y q (Z5p hi hy).1 hy hq
     rw[<- h2]
     unfold World.cell?
     rw[e]
   · rcases get i y hi with ⟨rfl,rfl⟩|⟨rfl,rfl⟩
     ·exact (hdd hy).elim
     ·exact h3 1 y q hb hy (hι 1 q hq).2
 · rcases get i y hi with ⟨rfl,rfl⟩|⟨rfl,rfl⟩
   ·exact hR.shz 0 o1 q h0 (hι 0 q hq).2 e
   ·exact hR.shz 1 y q hb (hι 1 q hq).2 e
 · rcases get i y hi with ⟨rfl,rfl⟩|⟨rfl,rfl⟩
   ·exact (hdd hy).elim
   ·exact .inr ⟨1,y,q,hb,hy,(hι 1 q hq).2,rfl⟩
end
theorem Zsf {sn : Z0o} {ι : Z0n} {W W' : World} {d0 : AObj} {fm : Nat} {cs : List AV} {ty : TypeId} {p : Place} (hR : R sn ι [d0, ⟨true, fm, 0, .cells cs ty⟩] W) (hd : d0.alive = false) (hp : ι 1 = some p) {arr' : Array Value} {cs' : List AV} (hl : cs'.length <= cs.length) (hsz : arr'.size = p.n)
  (hb:W'.heap[p.blk]? = some (.cells arr' ty (0,0))) (hc:∀(i:Nat)(c:AV),cs'[i]? = some c->∃v,arr'[p.sh+i]? = some v/\VR sn ι c v) (ho:∀c,c≠p.blk->c<W.heap.size->W'.heap[c]? = W.heap[c]?) (hs:W.heap.size<=W'.heap.size) (hos:W'.os=W.os) (htp:W'.tape=W.tape) (hout:W'.output=W.output) :
  Stq 2 sn ι [d0,⟨true,fm,0,.cells cs ty⟩] W sn ι [d0,⟨true,fm,0,.cells cs' ty⟩] W':=by
 have get:∀{x:ABody}(i:Nat)(y:AObj),[d0,⟨true,fm,0,x⟩][i]? = some y->y.alive=true->i=1/\y=⟨true,fm,0,x⟩:=λi y h hy=>by
  match i,h with
  |0,h=>cases h;rw[hd]at hy;cases hy
  |1,h=>cases h;exact⟨rfl,rfl⟩
  |i+2,h=>cases h
 have hob:=hR.obj 1 _ p rfl rfl hp
 simp only[OR]at hob
 obtain⟨arr,h1,h2,h3,h4⟩:=hob
 refine⟨⟨λi=>hR.dom i,λi q hq=>Y0p (hR.blk i q hq) hs,λi y q hi hy hq=>?_,λi j y z q q' hi hj hy hz hq hq' e=>?_,λa v hv=>?_,λi y q hi hq e=>?_⟩,λ_ _ h=>h,λi y q hi hy hq=>?_,λc hc' hno=>ho c (λe=>hno 1 _ p rfl rfl hp e.symm) hc',hs,hos,htp,hout,λa v hv=>.inl hv,λi q hi hq=>hq⟩
 · obtain⟨rfl,rfl⟩:=get i y hi hy
   rw[hp]at hq;cases hq
   simp only[OR]
   exact⟨arr',hb,hsz,by omega,hc⟩
 · obtain⟨rfl,rfl⟩:=get i y hi hy
   obtain⟨rfl,rfl⟩:=get j z hj hz
   rw[hq]at hq';cases hq';exact⟨rfl,rfl⟩
 · obtain⟨g1,g2,g3⟩:=hR.snap a v hv
   have hne:a.block≠p.blk:=λe=>g3 1 _ p rfl rfl hp e.symm
   refine⟨Y0p g1 hs,?_,λi y q hi hy hq=>?_⟩
   · rw[<- g2]
     unfold World.cell?
     rw[ho a.block hne g1]
   · obtain⟨rfl,rfl⟩:=get i y hi hy
     exact g3 1 _ q rfl rfl hq
 · match i,hi with
   |0,hi=>exact hR.shz 0 y q hi hq e
   |1,hi=>cases hi;exact hR.shz 1 _ q rfl hq rfl
   |i+2,hi=>cases hi
 · obtain⟨rfl,rfl⟩:=get i y hi hy
   exact .inr ⟨1,_,q,rfl,rfl,hq,rfl⟩
theorem Stq.lost{k:Nat}{sn sn1:Z0o}{ι ι1:Z0n}{H X:Z00}{W W1:World}{d0:AObj}(hd:d0.alive=false)(s:Stq k sn ι H W sn1 ι1 (d0::X) W1)(hk:1<=k):Stq 1 sn ι H W sn1 (λi=>if i<1 then ι1 i else none) [d0] W1:=by
 have get:∀(i:Nat)(y:AObj),[d0][i]? = some y->y.alive=true->False:=λi y h hy=>by
  match i,h with
  |0,h=>cases h;rw[hd]at hy;cases hy
  |i+1,h=>cases h
 have hι : ∀(i:Nat)(q:Place),(if i<1 then ι1 i else none)=some q->i<1 /\ ι1 i=some q:=λi q h=>by
  split at h
  ·exact⟨by assumption,h⟩
  ·cases h
 refine⟨⟨λi=>⟨λhi=>?_,λ⟨q,hq⟩=>(hι i q hq).1⟩,λi q hq=>s.rel.blk i q (hι i q hq).2,λi y q hi hy hq=>(get i y hi hy).elim,λi j y z q q' hi hj hy hz hq hq' e=>(get i y hi hy).elim,λa v hv=>⟨(s.rel.snap a v hv).1,(s.rel.snap a v hv).2.1,λi y q hi hy hq=>(get i y hi hy).elim⟩,λi y q hi hq e=>?_⟩,s.le,λi y q hi hy hq=>(get i y hi hy).elim,s.frame,s.size,s.os,s.tape,s.output,s.sfresh,λi q hi hq=>?_⟩
 · have:i<1:=hi
   rw[if_pos this]
   exact (s.rel.dom i).1 (by simp;omega)
 · obtain⟨h1,h2⟩:=hι i q hq
   have h3:i=0:=by omega
   subst h3
   cases hi
   exact s.rel.shz 0 _ q rfl h2 e
 · rw[if_pos hi]
   exact s.keep i q (by omega) hq
end Go.Abs
end
namespace Go.Proofs.YtneoiadnbikciaaGreatDoor.lex
open Go.Abs Go.RowKit
section
variable {gl:Z0k}
theorem Zjc{T:List Tq}(hT:TqOK T){s0:Ps}(hg0:GOK T s0){D:List Dc}{S:List (List St)}{E:Ps}(hP:Z1k T (T.length+1) [] [] s0=((D,S),E)):GX gl T 28 [.ptr 0 0] s0 (.agg [dcN D,Z3Z S]) E :=
 memx_same (ZlW hT hg0 hP) rfl rfl Zjr
def Zsn(f:Nat):Bool:=Y04 f 28
theorem Zg6{T:List Tq}{E:Ps}{i:Nat}{op:Int}{o2:AObj}{fs:List Nat}{X:Z00}(he:E.err=0)(hi:i=E.i)(ho:op=E.op)(h:HpGeZ fs (gL T i op++X) [0,1,2,3,4,5,6,7,8,9,10,11] [11] [o2] 11):HpGeZ fs (gL T i op++X) [0,1,2,3,4,5,6,7,8,9,10,11] [0,1,2,3,4,5,6,7,8,9,10,11] (gB T E++[o2]) 0:=by
 rw[Z0c he]
 exact Zaz hi ho h
theorem Zkc{T:List Tq}{s s':Ps}{b b':ABody}:∀(i:Nat)(o o':AObj),(gB T s++[⟨true,11,0,b⟩])[i]? = some o->(gB T s'++[⟨true,11,0,b'⟩])[i]? = some o'->o'.fam=o.fam/\o'.sh=o.sh/\(o'.alive=true->o.alive=true):=λi o o' h h'=>by
 by_cases hi:i<11
 · rw[Y0o (by rw[Zjq];exact hi)]at h h'
   exact Zjr i o o' h h'
 · rw[Y0F (by rw[Zjq];omega),Zjq]at h h'
   obtain⟨k,hk⟩:∃k,i-11=k:=⟨_,rfl⟩
   rw[hk]at h h'
   match k,h,h' with
   |0,h,h'=>cases h;cases h';exact⟨rfl,rfl,id⟩
   |k+1,h,h'=>cases h
theorem Zk5 {T : List Tq} (hT : TqOK T) {s0 : Ps} (hg0 : GOK T s0) {D : List Dc} {S : List (List St)} {E : Ps} (hP : Z1k T (T.length + 1) [] [] s0 = ((D, S), E)) {c : List AV} (hc : c.length = 2) :
  MemX Y00 gl (XF E) 27 [.ptr 0 0,.ptr 11 0] (gB T s0++[⟨true,11,0,.cells c 26⟩]) (.tuple []) (gB T E++[⟨true,11,0,.cells [dcN D,Z3Z S] 26⟩]):=by
 obtain⟨x,y,rfl⟩:∃x y,c=[x,y]:=by
  rcases c with _|⟨x,_|⟨y,_|⟨z,c⟩⟩⟩<;>simp at hc
  exact⟨x,y,rfl⟩
 refine memx_same (k:=12) ?_ rfl rfl Zkc
 obtain⟨O,hO,⟨p1,-⟩,-⟩:=Z2w (P:=Y00) (gl:=gl) (XF E) [Z9r T 28 (by kernel_rfl) (I:=Unit) (λ_ s=>s=s0) (λ_=>[.ptr 0 0]) (λ_ s=>.agg [dcN D,Z3Z S]) (λ_ s=>E) (λ_=>rfl) (λ_ _ _=>rfl) (λ_ s h=>by rw[h];exact Zjc hT hg0 hP)] [] rfl
 have q1:∀X,Z08 Z0z X=true->Z06 Y00 O (gL T s0.i s0.op++X) 28 [.ptr 0 0]=some (.agg [dcN D,Z3Z S],gB T E++X):=λX hX=>Z4Z p1 () s0 X hg0 rfl (λu hu=>hu) hX
 clear p1
 have hd:dcN D = .nslice\/dcN D=dcA D:=by cases D<;>simp[dcN]
 refine Z0w Zsn 3 follows Z05 hO Tryz.func27 rfl ?_
 rw (occs:=.pos [1]) [Z0c hg0.er]
 simp only[gL,LV,Y01,Y02]at q1⊢
 rcases D with _|⟨d,D⟩<;>rcases S with _|⟨l,S⟩
 all_goals simp only[dcN,Z3Z,dcA]at q1⊢
 all_goals repeat' ((conv=>whnf);first|(exact Or.inl rfl)|(refine Or.inr ?_)|(refine exG (q1 _ rfl) (λhd=>?_) (λe1=>?_))|refine stp ?_|with_reducible apply Z01<;>intro h)
 all_goals (conv=>whnf)
 all_goals exact⟨[],[0,1,2,3,4,5,6,7,8,9,10,11],rfl,(Zg6 e1 rfl rfl ⟨⟨rfl,rfl,rfl,rfl,Y0q (BodyGe.pre (rest:=[]) rfl rfl)⟩,trivial⟩),rfl,rfl,.inl (Y03 rfl)⟩
theorem Zmr {T : List Tq} (hT : TqOK T) {s0 : Ps} (hg0 : GOK T s0) {c : List AV} (hc : c.length = 4) :
  MemX Y00 gl (XF (Z0D T s0).2) 36 [.ptr 0 0,.ptr 11 0] (gB T s0++[⟨true,11,0,.cells c 47⟩]) (.tuple []) (gB T (Z0D T s0).2++[⟨true,11,0,.cells (Z0D T s0).1.cells 47⟩]):=by
 obtain⟨x,y,z,w,rfl⟩:∃x y z w,c=[x,y,z,w]:=by
  rcases c with _|⟨x,_|⟨y,_|⟨z,_|⟨w,_|⟨v,c⟩⟩⟩⟩⟩<;>simp at hc
  exact⟨x,y,z,w,rfl⟩
 refine memx_same (k:=12) ?_ rfl rfl Zkc
 obtain⟨O,hO,⟨p1,-⟩,-⟩:=Z2w (P:=Y00) (gl:=gl) (XF (Z0D T s0).2) [Z8E T hT] [] rfl
 have q1:=λX hX=>Zkn p1 hg0 (λu hu=>hu) (X:=X) hX
 clear p1
 generalize Z0D T s0=r at *
 obtain⟨⟨yo,yn,yt,yk⟩,E⟩:=r
 simp only at hO q1⊢
 refine Z0w Zrn 3 follows Z05 hO Tryz.func36 rfl ?_
 rw (occs:=.pos [1]) [Z0c hg0.er]
 simp only[gL,LV,Ex.cells,Y01,Y02]at q1⊢
 all_goals repeat' ((conv=>whnf);first|(exact Or.inl rfl)|(refine Or.inr ?_)|(refine exG (q1 _ rfl) (λhd=>?_) (λe1=>?_))|refine stp ?_|with_reducible apply Z01<;>intro h)
 all_goals (conv=>whnf)
 all_goals exact⟨[],[0,1,2,3,4,5,6,7,8,9,10,11],rfl,(Zg6 e1 rfl rfl ⟨⟨rfl,rfl,rfl,rfl,Y0q (BodyGe.pre (rest:=[]) rfl rfl)⟩,trivial⟩),rfl,rfl,.inl (Y03 rfl)⟩
end
section
variable {gl:Z0k}
theorem Zln(p:Value)(w:World):CallsD Y00 54 #[p] .returning w λe u' w'=>e = .returned (.tuple #[])/\u' = .returning/\w'=w:=by
 refine callsD_of_wpS Tryz.func54 rfl λc₀ cs hu=>?_
 apply wpS_seq
 apply wpS_region
 simp[wpOpsS,go_sem,recoverD,hu,Tryz.ntmps54,Exit.thenS]
 refine wpS_of_wp ?_
 go_wp2
 cases c₀
 simp_all[bodyPostS,results,Tryz.results54]
theorem Zp9(v:Value)(w:World):(Instr.typeAssert (.iface 88 v) 20 88 true).run Y00 w = .ok (.tuple #[v,.bool true]) w:=by kernel_rfl
theorem Zfd (b o : Nat) (arr : Array Value) (x y : Value) (w : World) (ob : Obj) {ty : TypeId} (hb : w.heap[b]? = some (.cells arr ty (0, 0))) (ho : o + 2 <= arr.size) :
  ((w.alloc ob).cell? ⟨b,o,none⟩).isSome=true/\(w.alloc ob).frozen? ⟨b,o,none⟩=false/\(((w.alloc ob).setCell ⟨b,o,none⟩ x).cell? ⟨b,o+1,none⟩).isSome=true/\((w.alloc ob).setCell ⟨b,o,none⟩ x).frozen? ⟨b,o+1,none⟩=false /\
  (((w.alloc ob).setCell ⟨b,o,none⟩ x).setCell ⟨b,o+1,none⟩ y).heap[b]? = some (.cells ((arr.setIfInBounds o x).setIfInBounds (o+1) y) ty (0,0))/\(∀c,c≠b->c<w.heap.size->(((w.alloc ob).setCell ⟨b,o,none⟩ x).setCell ⟨b,o+1,none⟩ y).heap[c]? = w.heap[c]?) /\
  w.heap.size<=(((w.alloc ob).setCell ⟨b,o,none⟩ x).setCell ⟨b,o+1,none⟩ y).heap.size:=by
 have hlt:b<w.heap.size:=(Array.getElem?_eq_some_iff.1 hb).1
 have h0:∀c,c<w.heap.size->(w.alloc ob).heap[c]? = w.heap[c]?:=λc hc=>by
  show (w.heap.push ob)[c]? = _
  rw[Array.getElem?_push,if_neg (Nat.ne_of_lt hc)]
 have h1:=(h0 b hlt).trans hb
 have hm:∀(w1:World)(a1:Array Value)(o1:Nat)(z:Value),w1.heap[b]? = some (.cells a1 ty (0,0))->(w1.setCell ⟨b,o1,none⟩ z).heap[b]? = some (.cells (a1.setIfInBounds o1 z) ty (0,0))/\∀c,c≠b->(w1.setCell ⟨b,o1,none⟩ z).heap[c]? = w1.heap[c]?:=λw1 a1 o1 z h=>by
  refine⟨?_,λc hc=>?_⟩
  · show (w1.heap.modify b _)[b]? = _
    rw[Array.getElem?_modify,if_pos rfl,h]
    rfl
  · show (w1.heap.modify b _)[c]? = _
    rw[Array.getElem?_modify,if_neg (λh=>hc h.symm)]
 obtain⟨h2,h3⟩:=hm (w.alloc ob) arr o x h1
 obtain⟨h4,h5⟩:=hm _ _ (o+1) y h2
 refine⟨?_,?_,?_,?_,h4,λc hc hl=>(h5 c hc).trans ((h3 c hc).trans (h0 c hl)),?_⟩
 · unfold World.cell?
   rw[h1]
   have:o<arr.size:=by omega
   simp[this]
 · unfold World.frozen?
   rw[h1]
   simp
 · unfold World.cell?
   rw[h2]
   have:o+1<arr.size:=by omega
   simp[this]
 · unfold World.frozen?
   rw[h2]
   simp
 · have hs:∀(w1:World)(a:Addr)(z:Value),(w1.setCell a z).heap.size=w1.heap.size:=λw1 a z=>Array.size_modify
   rw[hs,hs]
   show _<=(w.heap.push ob).size
   rw[Array.size_push]
   exact Nat.le_succ _
theorem Zlm (b o : Nat) (arr : Array Value) (e a : Int) (w : World) (hb : w.heap[b]? = some (.cells arr 29 (0, 0))) (ho : o + 2 <= arr.size) :
  CallsD Y00 54 #[.pointer (some ⟨b,o,none⟩)] (.panicking [{ v:=.iface 88 (.agg #[.int .i64 e,.int .i64 a]),recovered:=false }]) w λe' u' w' =>
   e' = .returned (.tuple #[])/\u' = .panicking [{ v:=.iface 88 (.agg #[.int .i64 e,.int .i64 a]),recovered:=true }] /\
   w'=((w.alloc (.cells #[.int .i64 e,.int .i64 a] 88)).setCell ⟨b,o,none⟩ (.int .i64 e)).setCell ⟨b,o+1,none⟩ (.int .i64 a):=by
 obtain⟨k1,k2,k3,k4,-⟩:=Zfd b o arr (.int .i64 e) (.int .i64 a) w (.cells #[.int .i64 e,.int .i64 a] 88) hb ho
 obtain⟨c1,k1⟩:=Option.isSome_iff_exists.1 k1
 obtain⟨c3,k3⟩:=Option.isSome_iff_exists.1 k3
 refine callsD_of_wpS Tryz.func54 rfl λc₀ cs hu=>?_
 apply wpS_seq
 apply wpS_region
 simp[wpOpsS,go_sem,recoverD,hu,Tryz.ntmps54,Exit.thenS]
 refine wpS_of_wp ?_
 have has:=Zp9 (.agg #[.int .i64 e,.int .i64 a])
 go_wp2
 simp[bodyPostS,results,Tryz.results54]
noncomputable def sqL:Code->Code
 | .seq a _=>a
 |c=>c
noncomputable def sqR:Code->Code
 | .seq _ b=>b
 |c=>c
end
section
variable {gl:Z0k}
noncomputable def rdT:Nat->Code
 |0=>(Y0g.body).getD .skip
 |n+1=>sqR (rdT n)
noncomputable def rgO:Code->Array Oper
 | .region _ ops _=>ops
 |_=>#[]
def Z2x(T:List Tq)(E:Ps):Ps:=if E.err=0/\(Z0r T E).kind≠5 then Z0p E 5 (Z0r T E).pos else E
def KX:Nat->Tr->Z00->Prop:=λ_ _ _=>False
def KF:Tr->Z00->Prop:=λ_ _=>False
theorem Zcl {orc : Orc} {cw : CW} {c d : Code} {k : Nat} {tm : Tr} {H : Z00} {kn : Tr -> Z00 -> Prop} {Q : Exit -> Act -> World -> Prop} (hO : OrcSoundX (fun _ => False) Y00 gl orc) (hcw : Z5O Y00 orc cw) (h : Z7N Y00 gl orc cw k c kn KX KF tm H) {a : Act} {W : World} {sn : Z0o} {ι : Z0n} (hg : GlOK gl sn) (hR : R sn ι H W) (ht : TRel sn ι tm a)
  (hQ:∀tm' H' a' W' sn' ι',kn tm' H'->Stq k sn ι H W sn' ι' H' W'->TRel sn' ι' tm' a'->a'.defers=a.defers->d.wpIn (Fq none) 0 Y00 Q a' W'):(Code.seq c d).wpIn (Fq none) 0 Y00 Q a W:=by
 refine wpIn_seq (Zco (X:=λ_=>False) (rd:=none) follows Z05 hO hcw c h a W sn ι _ hg hR ht (λx tm' H' a' W' sn' ι' hx s t hd=>?_) (λa' ch W' hd p=>p.no.elim))
 cases x with
 |normal=>exact hQ tm' H' a' W' sn' ι' hx s t hd
 |exit id=>exact hx.elim
 |ret=>exact hx.elim
def fO:AObj:=⟨true,1,0,.cells [.int .i64 0,.int .i64 0] 29⟩
def rdH(p0 f0:AObj)(T:List Tq)(i:Nat)(op:Int):Z00:=[p0,f0,⟨true,2,0,.map [(.str [124,124],.int .i64 5,0)] 1⟩,⟨true,3,0,.map [(.str [38,38],.int .i64 6,0)] 1⟩,⟨true,4,0,.map [(.str [61,61],.int .i64 7,0),(.str [33,61],.int .i64 8,1)] 2⟩,
 ⟨true,5,0,.map [(.str [60],.int .i64 9,0),(.str [60,61],.int .i64 10,1)] 2⟩,⟨true,6,0,.map [(.str [124],.int .i64 11,0)] 1⟩,⟨true,7,0,.map [(.str [94],.int .i64 12,0)] 1⟩,⟨true,8,0,.map [(.str [38],.int .i64 13,0)] 1⟩,
 ⟨true,9,0,.map [(.str [43],.int .i64 14,0),(.str [45],.int .i64 15,1)] 2⟩,⟨true,10,0,.map [(.str [42],.int .i64 16,0)] 1⟩,⟨true,11,0,.cells [.map 2,.map 3,.map 4,.map 5,.map 6,.map 7,.map 8,.map 9,.map 10] 128⟩,
 ⟨true,12,0,.cells [.rs T.length 4 (tqC T),.int .i64 i,.int .i64 op,.slice 11 0 9 9 1] 92⟩]
def ZkS(f:Nat):Bool:=Y04 f 53
def fD:AObj:=⟨false,1,0,.cells [] 0⟩
def Zqh(f:Nat):Bool:=true
def ZrW(f:Nat):Bool:=false
noncomputable abbrev oN0(gl:Z0k):Orc:=Z8h Y00 gl (ZkP λ_ _=>none) ZrW 3
noncomputable abbrev cN0(gl:Z0k):CW:=Z74 Y00 gl (ZkP λ_ _=>none) ZrW 3
noncomputable abbrev oR(gl:Z0k)(O:Orc):Orc:=Z8h Y00 gl O Zqh 3
noncomputable abbrev cR(gl:Z0k)(O:Orc):CW:=Z74 Y00 gl O Zqh 3
def ZiT:Nat->Z00->Bool
 |_,[]=>true
 |i,o::H=>(Y04 i 1 || (!o.alive || !Y04 o.fam 1))&&ZiT (i+1) H
noncomputable def K9(gl:Z0k)(kr:Tr->Z00->Prop)(tm:Tr)(H:Z00):Prop:=(H[1]? = some fD/\ZiT 0 H=true)/\Z1M (H.set 1 fO) λH'=>Z7N Y00 gl (oN0 gl) (cN0 gl) 2 (rdT 7) KF KX kr tm H'
noncomputable def K8(gl:Z0k)(O:Orc)(tm:Tr)(H:Z00):Prop:=Z1p tm 4=some (.ptr 1 0)/\ZfA Y00 gl (oR gl O) (cR gl O) (rgO (match sqR (sqL (rdT 6))with | .cond _ a _=>a|c=>c)).toList (rgO (match sqR (sqL (rdT 6))with | .cond _ a _=>a|c=>c)).toList tm H λ_ H=>Z8l H=true
noncomputable def K7(gl:Z0k)(O:Orc)(kr:Tr->Z00->Prop)(tm:Tr)(H:Z00):Prop:=onO (Z3f gl tm (.tmp 27)) λv=>match v with
 | .bool t=>(t=true->K8 gl O tm H)/\(t=false->K9 gl kr tm H)
 |_=>False
noncomputable def K6(gl:Z0k)(O:Orc)(kr:Tr->Z00->Prop)(tm:Tr)(H:Z00):Prop:=Z7N Y00 gl (oN0 gl) (cN0 gl) 2 (sqL (sqL (rdT 6))) (K7 gl O kr) KX KF tm H
noncomputable def K5(gl:Z0k)(O:Orc)(T:List Tq)(p0:AObj)(kr:Tr->Z00->Prop)(tm:Tr)(H:Z00):Prop:=(H=rdH p0 fO T 0 0/\Z1p tm 4=some (.ptr 1 0))/\ZfA Y00 gl (oR gl O) (cR gl O) (rgO (sqL (rdT 5))).toList (rgO (sqL (rdT 5))).toList tm (rdH p0 fD T 0 0) λtm H=>dK H (K6 gl O kr tm H)
noncomputable def K4(gl:Z0k)(O:Orc)(T:List Tq)(p0:AObj)(kr:Tr->Z00->Prop)(tm:Tr)(H:Z00):Prop:=Z7N Y00 gl (oN0 gl) (cN0 gl) 2 (sqL (rdT 4)) (K5 gl O T p0 kr) KX KF tm H
noncomputable def K3(gl:Z0k)(O:Orc)(T:List Tq)(p0:AObj)(kr:Tr->Z00->Prop)(tm:Tr)(H:Z00):Prop:=opW Y00 (oN0 gl) (cN0 gl) (Z3f gl tm) ((rgO (sqL (rdT 3))).toList.headD default) H λr H'=>onO (Z4O (some 16) r tm) λtm'=>r = .func (.func 54) [] [.ptr 1 0]/\K4 gl O T p0 kr tm' H'
theorem ZpS {orc O : Orc} {T : List Tq} {txt : List UInt8} {c : Nat} {pc pc' : List AV} {ty : TypeId} {E : Ps} (h0 : 0 < T.length) (qA : ∀ H, Z06 Y00 orc H 53 [.str txt] = some (.tuple [.rs T.length 4 (tqC T), .agg [.int .i64 0, .int .i64 0]], H))
  (qd:E.err≠0->Z06 Y00 O (rdH ⟨true,0,0,.cells pc ty⟩ fD T 0 0) c [.ptr 12 0,.ptr 0 0]=some (.tuple [],gD E))
  (ql:E.err=0->PsOK T E/\Z06 Y00 O (rdH ⟨true,0,0,.cells pc ty⟩ fD T 0 0) c [.ptr 12 0,.ptr 0 0]=some (.tuple [],rdH ⟨true,0,0,.cells pc' ty⟩ fD T E.i E.op))
  (qx:E.err=0->(Z0r T E).kind≠5->Z06 Y00 O (rdH ⟨true,0,0,.cells pc' ty⟩ fD T E.i E.op++[⟨true,13,0,.cells (Z0r T E).cells 38⟩]) 56 [.ptr 12 0,.int .i64 5]=some (.tuple [],gD E)) :
  frcTr (tmk (Z76 [.str txt,.func (.func c) [] [.ptr 0 0]] 31 2) (Z8c 20 31)) λtm=>Z7N Y00 gl (Z8h Y00 gl orc ZkS 3) (Z74 Y00 gl orc ZkS 3) 2 (sqL (rdT 0)) (λtm H=>Z7N Y00 gl (Z8h Y00 gl orc ZkS 3) (Z74 Y00 gl orc ZkS 3) 2 (sqL (rdT 1)) (λtm H=>Z7N Y00 gl (Z8h Y00 gl orc ZkS 3) (Z74 Y00 gl orc ZkS 3) 2 (sqL (rdT 2)) (K3 gl O T ⟨true,0,0,.cells pc ty⟩ (λtm H=>(E.err=0/\(Z0r T E).kind=5)/\Z1p tm 4=some (.ptr 1 0)/\∃X,H=⟨true,0,0,.cells pc' ty⟩::fO::X)) KX KF tm H) KX KF tm H) KX KF tm [⟨true,0,0,.cells pc ty⟩]:=by
 repeat' ((conv=>whnf);first|(refine Or.inr ?_)|refine exI (qA _) ?_|refine stp ?_|with_reducible apply Z01<;>intro h)
 conv=>whnf
 refine⟨⟨rfl,rfl⟩,?_⟩
 by_cases he:E.err=0
 case neg =>
  have q:=qd he
  clear qd ql qx qA
  simp only[rdH,fD,gD,LV]at q⊢
  repeat' ((conv=>whnf);first|(exact Or.inl rfl)|(refine Or.inr ?_)|refine exI q ?_|refine stp ?_|with_reducible apply Z01<;>intro h)
 obtain⟨hE,q⟩:=ql he
 have hx:=tq4 T E.i hE.lt
 rw[<- Z0t hE.lt]at hx
 have hlt:=hE.lt
 replace qx:=qx he
 clear qd ql qA
 generalize Z0r T E=t at *
 obtain⟨kd,tx,nm,ps⟩:=t
 simp only[rdH,fD,gD,LV,Tq.cells,Y01,Y02]at q hx qx⊢
 repeat' ((conv=>whnf);first|(exact Or.inl rfl)|(refine Or.inr ?_)|refine exI q ?_|refine exI hx ?_|(with_reducible refine ixJ E.i rfl ?_ ?_;focus omega)|refine stp ?_|with_reducible apply Z01<;>intro h)
 · have hk5:kd≠5:=by simpa using h
   replace qx:=qx hk5
   refine⟨rfl,?_⟩
   repeat' ((conv=>whnf);first|(exact rfl)|refine exI qx ?_|refine stp ?_|with_reducible apply Z01<;>intro h)
 · have hk5:kd=5:=by simpa using h
   refine⟨⟨rfl,rfl⟩,?_⟩
   clear qx q
   unfold fO
   repeat' ((conv=>whnf);first|(refine Or.inr ?_)|refine stp ?_|with_reducible apply Z01<;>intro h)
   conv=>whnf
   exact⟨⟨he,hk5⟩,rfl,_,rfl⟩
end
section
variable {gl:Z0k}
theorem ZfC{tm:Tr}{H:Z00}{fm:Nat}{e a:Int}(ht:Z1p tm 4=some (.ptr 1 0))(hH:H[1]? = some ⟨true,fm,0,.cells [.int .i64 e,.int .i64 a] 29⟩):Z3j Y00 tm H [.cell 4 29]=some [.agg [.int .i64 e,.int .i64 a]]:=by
 rcases H with _|⟨h0,_|⟨x,H⟩⟩
 ·cases hH
 ·cases hH
 simp only[List.getElem?_cons_succ,Y0H,Option.some.injEq]at hH
 subst hH
 simp only[Z3j,ht]
 rfl
theorem Zgn:∀{H:Z00}{b:Nat}{o:AObj},H[b]? = some o->o.alive=true->Zr0 o.body=true->Z8l H=true
 |[],b,o,h,_,_=>by cases h
 |⟨al,f,s,bd⟩::H,0,o,h,h1,h2=>by
  cases h
  simp only at h1 h2
  unfold Z8l
  rw[h1,h2];rfl
 |⟨al,f,s,bd⟩::H,b+1,o,h,h1,h2=>by
  have:=Zgn (H:=H) (by simpa using h) h1 h2
  unfold Z8l
  rw[this,Bool.or_true]
theorem ZmP{T:List Tq}{pc:List AV}{ty:TypeId}{fD':AObj}(hpr:refsL pc []=[]):HpGe (rdH ⟨true,0,0,.cells pc ty⟩ fD' T 0 0) [12,2,3,4,5,6,7,8,9,10,11,0] [12,2,3,4,5,6,7,8,9,10,11,0] (gL T 0 0++[⟨true,11,0,.cells pc ty⟩]) 0:=by
 refine⟨⟨rfl,rfl,rfl,rfl,Y09 ⟨Y03 rfl,Y06 rfl,Y06 rfl,Wk.slice rfl rfl rfl (Y0a _) (Y0a _) rfl,trivial⟩⟩,⟨rfl,rfl,rfl,rfl,rfl,eG trivial⟩,⟨rfl,rfl,rfl,rfl,rfl,eG trivial⟩,⟨rfl,rfl,rfl,rfl,rfl,eG (eG trivial)⟩,⟨rfl,rfl,rfl,rfl,rfl,eG (eG trivial)⟩,⟨rfl,rfl,rfl,rfl,rfl,eG trivial⟩,⟨rfl,rfl,rfl,rfl,rfl,eG trivial⟩,⟨rfl,rfl,rfl,rfl,rfl,eG trivial⟩,⟨rfl,rfl,rfl,rfl,rfl,eG (eG trivial)⟩,⟨rfl,rfl,rfl,rfl,rfl,eG trivial⟩,⟨rfl,rfl,rfl,rfl,Y09 ?_⟩,⟨rfl,rfl,rfl,rfl,BodyGe.pre (rest:=[]) (by rw[Y0m]) hpr⟩,trivial⟩
 exact⟨Y08 rfl,Y08 rfl,Y08 rfl,Y08 rfl,Y08 rfl,Y08 rfl,Y08 rfl,Y08 rfl,Y08 rfl,trivial⟩
theorem ZnS{T:List Tq}{pc:List AV}{ty:TypeId}{fD':AObj}{i:Nat}{op:Int}{X:Z00}:HpGe (rdH ⟨true,0,0,.cells pc ty⟩ fD' T i op++X) [12,2,3,4,5,6,7,8,9,10,11] [12,2,3,4,5,6,7,8,9,10,11] (gL T i op) 0:=by
 refine⟨⟨rfl,rfl,rfl,rfl,Y09 ⟨Y03 rfl,Y06 rfl,Y06 rfl,Wk.slice rfl rfl rfl (Y0a _) (Y0a _) rfl,trivial⟩⟩,⟨rfl,rfl,rfl,rfl,rfl,eG trivial⟩,⟨rfl,rfl,rfl,rfl,rfl,eG trivial⟩,⟨rfl,rfl,rfl,rfl,rfl,eG (eG trivial)⟩,⟨rfl,rfl,rfl,rfl,rfl,eG (eG trivial)⟩,⟨rfl,rfl,rfl,rfl,rfl,eG trivial⟩,⟨rfl,rfl,rfl,rfl,rfl,eG trivial⟩,⟨rfl,rfl,rfl,rfl,rfl,eG trivial⟩,⟨rfl,rfl,rfl,rfl,rfl,eG (eG trivial)⟩,⟨rfl,rfl,rfl,rfl,rfl,eG trivial⟩,⟨rfl,rfl,rfl,rfl,Y09 ?_⟩,trivial⟩
 exact⟨Y08 rfl,Y08 rfl,Y08 rfl,Y08 rfl,Y08 rfl,Y08 rfl,Y08 rfl,Y08 rfl,Y08 rfl,trivial⟩
theorem ZoJ{T:List Tq}{E:Ps}:∀u,XF E u->XF (Z2x T E) u:=λu h=>by
 have:Z2x T E=E:=by unfold Z2x;rw[if_neg (λk=>h.1 k.1)]
 rw[this];exact h
theorem ZoV {T : List Tq} {c : Nat} {pc pc' : List AV} {ty : TypeId} {E : Ps} (hpr : refsL pc [] = []) (hpr' : refsL pc' [] = []) (hren : ∀ g, renL g pc' = pc')
  (hC:MemX Y00 gl (XF E) c [.ptr 0 0,.ptr 11 0] (gB T ⟨0,0,0,0⟩++[⟨true,11,0,.cells pc ty⟩]) (.tuple []) (gB T E++[⟨true,11,0,.cells pc' ty⟩])) :
  MemX Y00 gl (XF (Z2x T E)) c [.ptr 12 0,.ptr 0 0] (rdH ⟨true,0,0,.cells pc ty⟩ fD T 0 0) (.tuple []) (cond (E.err==0) (rdH ⟨true,0,0,.cells pc' ty⟩ fD T E.i E.op) (gD E)):=by
 refine MemX.less ?_ ZoJ
 rw[Z0c (s:=⟨0,0,0,0⟩) rfl]at hC
 simp only at hC
 have hM:MemX Y00 gl (XF E) c [.ptr 0 0,.ptr 11 0] (gL T 0 0++[⟨true,11,0,.cells pc ty⟩]) (.tuple []) (gB T E++[⟨true,11,0,.cells pc' ty⟩]):=hC
 by_cases he:E.err=0
 · have e1:(E.err==0)=true:=by simpa using he
   rw[e1]
   rw[Z0c he]at hM
   have h2:=Z2d (m:=[12,2,3,4,5,6,7,8,9,10,11,0]) (Hc:=rdH ⟨true,0,0,.cells pc ty⟩ fD T 0 0) (cargs:=[.ptr 12 0,.ptr 0 0]) hM (Y0f ⟨Y0d rfl rfl,Y0d rfl rfl,trivial⟩) (ZmP hpr) rfl rfl rfl (Z10 rfl) (λi o h=>by
    match i,h with
    |0,h=>cases h;rfl
    |1,h=>cases h;rfl
    |2,h=>cases h;rfl
    |3,h=>cases h;rfl
    |4,h=>cases h;rfl
    |5,h=>cases h;rfl
    |6,h=>cases h;rfl
    |7,h=>cases h;rfl
    |8,h=>cases h;rfl
    |9,h=>cases h;rfl
    |10,h=>cases h;rfl
    |11,h=>cases h;(show Z11 _ (refsL pc' [])=true;rw[hpr'];rfl)
    |k+12,h=>cases h) rfl
   simp[mem,Z9X,Z5M,shS,sgS,Z5I,renL,ZhG,ren,AObj.dead,gL,LV,rdH,fD,hren]at h2
   exact h2
 · have e1:(E.err==0)=false:=by simpa using he
   rw[e1]
   rw[Z62 he]at hM
   have h1:=Z22 (H2:=gD E++[⟨true,11,0,.cells [] 0⟩]) (r2:=.tuple []) hM rfl
   exact Z22 (Z2d (m:=[12,2,3,4,5,6,7,8,9,10,11,0]) (Hc:=rdH ⟨true,0,0,.cells pc ty⟩ fD T 0 0) (cargs:=[.ptr 12 0,.ptr 0 0]) h1 (Y0f ⟨Y0d rfl rfl,Y0d rfl rfl,trivial⟩) (ZmP hpr) rfl rfl rfl (Z10 rfl) ZeG rfl) rfl
theorem Zma {T : List Tq} {pc' : List AV} {ty : TypeId} {E : Ps} (hE : PsOK T E) (he : E.err = 0) (hk : (Z0r T E).kind ≠ 5) :
  MemX Y00 gl (XF (Z2x T E)) 56 [.ptr 12 0,.int .i64 5] (rdH ⟨true,0,0,.cells pc' ty⟩ fD T E.i E.op++[⟨true,13,0,.cells (Z0r T E).cells 38⟩]) (.tuple []) (gD E):=by
 have hM:=Zg4 (gl:=gl) hE (e:=5) (by decide)
 unfold GX at hM
 rw[Z0c he,Z62 (Z1Y (by decide))]at hM
 have hX:Z2x T E=Z0p E 5 (Z0r T E).pos:=by unfold Z2x;rw[if_pos ⟨he,hk⟩]
 rw[hX]
 have h1:=Z22 (H2:=gD E) (r2:=.tuple []) hM rfl
 generalize Z0r T E=t at *
 obtain⟨kd,tx,nm,ps⟩:=t
 exact Z22 (Z2d (m:=[12,2,3,4,5,6,7,8,9,10,11]) (Hc:=rdH ⟨true,0,0,.cells pc' ty⟩ fD T E.i E.op++[⟨true,13,0,.cells (Tq.mk kd tx nm ps).cells 38⟩]) (cargs:=[.ptr 12 0,.int .i64 5]) h1 (Y0f ⟨Y0d rfl rfl,Y06 rfl,trivial⟩) ZnS rfl rfl rfl (Z10 rfl) Zjo rfl) (Zgn (b:=12) rfl rfl rfl)
end
section
variable {gl:Z0k}
theorem Zbv:∀(t:Tr)(g:Nat->Option AV)(n:Nat)(u v:AV),Z1p t n=some u->g n=some v->Z1p (Zau g t) n=some v
 | .leaf,g,n,u,v,h,k=>by simp[Z1p]at h
 | .node x l r,g,0,u,v,h,k=>by cases x<;>simp[Zau,Z1p]at h⊢;exact k
 | .node x l r,g,n+1,u,v,h,k=>by
  simp only[Zau,Z1p]at h⊢
  split
  · rename_i hn
    rw[hn]at h
    have hn':n % 2=0:=hn
    have e:Nat.add (Nat.mul 2 (Nat.div n 2)) 1=n+1:=by show 2*(n / 2)+1=n+1;omega
    exact Zbv l _ _ u v h (by rw[e];exact k)
  · rename_i hn
    split at h
    ·rename_i h2;exact absurd h2 hn
    have hn':¬n % 2=0:=hn
    have e:Nat.add (Nat.mul 2 (Nat.div n 2)) 2=n+1:=by show 2*(n / 2)+2=n+1;omega
    exact Zbv r _ _ u v h (by rw[e];exact k)
theorem Stq.one{k:Nat}{sn sn1:Z0o}{ι ι1:Z0n}{H H1:Z00}{W W1:World}(s:Stq k sn ι H W sn1 ι1 H1 W1)(hk:1<=k):Stq 1 sn ι H W sn1 ι1 H1 W1:=⟨s.rel,s.le,s.fresh,s.frame,s.size,s.os,s.tape,s.output,s.sfresh,λb p hb hp=>s.keep b p (by omega) hp⟩
def rdR(T:List Tq)(E:Ps):AV:=.agg [.int .i64 (Z2x T E).err,.int .i64 (Z2x T E).at_]
def rdE(T:List Tq)(E:Ps)(pc':List AV)(ty:TypeId):AObj:=cond ((Z2x T E).err==0) ⟨true,0,0,.cells pc' ty⟩ ⟨false,0,0,.cells [] 0⟩
theorem ZmN {T : List Tq} {pc pc' : List AV} {ty : TypeId} {E : Ps} {sn sn5 : Z0o} {ι ι5 : Z0n} {W W5 W' : World} {a' : Act} {tm5 : Tr} {ch : List PanicEntry} {fp : Value}
  (s5:Stq 2 sn ι [⟨true,0,0,.cells pc ty⟩] W sn5 ι5 (rdH ⟨true,0,0,.cells pc ty⟩ fO T 0 0) W5) (t5:∀n,tex tm5 n=true->n<a'.tmps.size) (h4:Z1p tm5 4=some (.ptr 1 0)) (hfp:VR sn5 ι5 (.ptr 1 0) fp)
  (hd:a'.defers=[{ target:=.fn (.func 54) #[fp],args:=#[] }]) (ht:∃y,a'.tmps[4]? = some y/\VR sn5 ι5 (.ptr 1 0) y) (p:PanR (XF (Z2x T E)) sn5 ι5 (rdH ⟨true,0,0,.cells pc ty⟩ fD T 0 0) W5 ch W') :
  Leaves Y00 Y0g a'.tmps (λe W1=>∃v sn' ι',e = .returned v/\VR sn' ι' (rdR T E) v/\Stq 1 sn ι [⟨true,0,0,.cells pc ty⟩] W sn' ι' [rdE T E pc' ty] W1) a'.defers (.panicking ch) W':=by
 have hp:=Zlu (o1:=⟨true,0,0,.cells pc ty⟩) (o:=fO) s5.rel rfl rfl rfl rfl (λi x hx hal hi=>by
  match i,hx with
  |0,hx=>cases hx;exact (show (0:Nat)≠1 by decide)
  |1,hx=>exact absurd rfl hi
  |2,hx=>cases hx;exact (show (2:Nat)≠1 by decide)
  |3,hx=>cases hx;exact (show (3:Nat)≠1 by decide)
  |4,hx=>cases hx;exact (show (4:Nat)≠1 by decide)
  |5,hx=>cases hx;exact (show (5:Nat)≠1 by decide)
  |6,hx=>cases hx;exact (show (6:Nat)≠1 by decide)
  |7,hx=>cases hx;exact (show (7:Nat)≠1 by decide)
  |8,hx=>cases hx;exact (show (8:Nat)≠1 by decide)
  |9,hx=>cases hx;exact (show (9:Nat)≠1 by decide)
  |10,hx=>cases hx;exact (show (10:Nat)≠1 by decide)
  |11,hx=>cases hx;exact (show (11:Nat)≠1 by decide)
  |12,hx=>cases hx;exact (show (12:Nat)≠1 by decide)
  |k+13,hx=>cases hx) p
 obtain⟨u,v,⟨he,rfl⟩,rfl,hv,-⟩:=p
 have he1:((Z2x T E).err==0)=false:=by simpa using he
 obtain⟨pf,hpf,rfl⟩:∃pf,ι5 1=some pf/\fp = .pointer (some ⟨pf.blk,pf.sh+0,none⟩):=by simpa only[VR]using hfp
 have hob:=hp.rel.obj 1 fO pf rfl rfl (by show (if 1<2 then ι5 1 else none)=_;rw[if_pos (by decide)];exact hpf)
 unfold fO at hob
 simp only[OR]at hob
 obtain⟨arr,k1,k2,k3,-⟩:=hob
 have hsz:pf.sh+2<=arr.size:=by rw[k2];exact k3
 have hv2:v = .iface 88 (.agg #[.int .i64 (Z2x T E).err,.int .i64 (Z2x T E).at_]):=by
  unfold ZpK at hv
  simp only[VR,LR]at hv
  obtain⟨x,rfl,d,rfl,d1,l1,e1,rfl,d2,l2,rfl,rfl,rfl⟩:=hv
  congr 2
  exact Y0I.1 e1
 subst hv2
 rw[hd]
 refine leaves_cons (f:=54) (args:=#[.pointer (some ⟨pf.blk,pf.sh+0,none⟩)]) (by simp) (by simp[go_sem]) ?_
 refine (Zlm pf.blk (pf.sh+0) arr _ _ W' k1 hsz).mono ?_
 rintro e' u' w'' ⟨rfl,rfl,rfl⟩
 obtain⟨-,-,-,-,g5,g6,g7⟩:=Zfd pf.blk (pf.sh+0) arr (.int .i64 (Z2x T E).err) (.int .i64 (Z2x T E).at_) W' (.cells #[.int .i64 (Z2x T E).err,.int .i64 (Z2x T E).at_] 88) k1 hsz
 have hpw:=Zsf (cs':=[.int .i64 (Z2x T E).err,.int .i64 (Z2x T E).at_]) hp.rel rfl (by show (if 1<2 then ι5 1 else none)=_;rw[if_pos (by decide)];exact hpf) (Y0a _) (by simpa using k2) g5 (λi c hc=>by
  match i,hc with
  |0,hc =>
   cases hc
   refine⟨_,?_,rfl⟩
   rw[Y0A,if_neg (by omega),Y0A,if_pos rfl,if_pos (by omega)]
  |1,hc =>
   cases hc
   refine⟨_,?_,rfl⟩
   rw[Y0A,if_pos (by omega),if_pos (by simp;omega)]
  |i+2,hc=>cases hc) (λc h1 h2=>g6 c h1 h2) g7 rfl rfl rfl
 have tP:TRel sn5 (λi=>if i<2 then ι5 i else none) (Zau (λn=>Z21 n [(4,.ptr 1 0)]) tm5) a':=by
  refine⟨λn x hx=>?_,λn hx=>by rw[Z4i]at hx;exact t5 n hx⟩
  have hg:=Z3q _ _ _ _ hx
  have hn:n=4/\x = .ptr 1 0:=by
   simp only[Z21]at hg
   split at hg
   · rename_i hb
     have:=Y0J hb
     exact⟨this.symm,by simpa using hg.symm⟩
   ·cases hg
  obtain⟨rfl,rfl⟩:=hn
  obtain⟨y,y1,y2⟩:=ht
  refine⟨y,y1,?_⟩
  simp only[VR]at y2⊢
  obtain⟨q,q1,q2⟩:=y2
  exact⟨q,by rw[if_pos (by decide)];exact q1,q2⟩
 have h1:=ZfC (H:=[(⟨true,0,0,.cells pc ty⟩:AObj).dead,⟨true,1,0,.cells [.int .i64 (Z2x T E).err,.int .i64 (Z2x T E).at_] 29⟩]) (Zbv tm5 (λn=>Z21 n [(4,.ptr 1 0)]) 4 _ (.ptr 1 0) h4 rfl) rfl
 obtain⟨vs,k1',k2'⟩:=Z0O hpw.rel tP _ _ h1
 have hall:=Stq.lost (d0:=(⟨true,0,0,.cells pc ty⟩:AObj).dead) rfl ((s5.trans hp).trans hpw) (by decide)
 have hE:rdE T E pc' ty=(⟨true,0,0,.cells pc ty⟩:AObj).dead:=by
  unfold rdE
  rw[he1]
  rfl
 rw[hE]
 show ∃v,(results Y0g a'.tmps).run Y00 _ = .ok v _/\_
 exact⟨_,Z0R (fn:=Y0g) k2',_,_,_,rfl,Z1n (rdR T E) [] _ (λb hb=>by cases hb) (Z2K (fn:=Y0g) k1'),hall⟩
theorem ZpR {T : List Tq} {pc pc' : List AV} {ty : TypeId} {E : Ps} {sn sn9 : Z0o} {ι ι9 : Z0n} {W W9 : World} {a9 : Act} {tm9 : Tr} {fp : Value} {X : Z00} (hpr' : refsL pc' [] = []) (he : E.err = 0) (hk : (Z0r T E).kind = 5) (hat : E.at_ = 0)
  (s9:Stq 1 sn ι [⟨true,0,0,.cells pc ty⟩] W sn9 ι9 (⟨true,0,0,.cells pc' ty⟩::fO::X) W9) (t9:TRel sn9 ι9 tm9 a9) (h4:Z1p tm9 4=some (.ptr 1 0)) (hd:a9.defers=[{ target:=.fn (.func 54) #[fp],args:=#[] }]) :
  Leaves Y00 Y0g a9.tmps (λe W1=>∃v sn' ι',e = .returned v/\VR sn' ι' (rdR T E) v/\Stq 1 sn ι [⟨true,0,0,.cells pc ty⟩] W sn' ι' [rdE T E pc' ty] W1) a9.defers .returning W9:=by
 rw[hd]
 refine leaves_cons (f:=54) (args:=#[fp]) (by simp) (by simp[go_sem]) ?_
 refine (Zln fp W9).mono ?_
 rintro e' u' w'' ⟨rfl,rfl,rfl⟩
 have hS:Z2x T E=E:=by unfold Z2x;rw[if_neg (λh=>h.2 hk)]
 have h1:=ZfC (H:=⟨true,0,0,.cells pc' ty⟩::fO::X) (e:=0) (a:=0) h4 rfl
 obtain⟨vs,k1,k2⟩:=Z0O s9.rel t9 _ _ h1
 obtain⟨hF,_⟩:=Fg.sound (k:=1) (m:=[0]) (H:=⟨true,0,0,.cells pc' ty⟩::fO::X) (tm:=tm9) (tm2:=Zau (λ_=>none) tm9) (H2:=[⟨true,0,0,.cells pc' ty⟩]) ⟨⟨λn u2 e=>(by have:=Z3q _ _ _ _ e;cases this),λn e=>(by rw[Z4i]at e;exact e)⟩,⟨⟨rfl,rfl,rfl,rfl,BodyGe.pre (rest:=[]) (by rw[Y0m]) hpr'⟩,trivial⟩,rfl,rfl⟩ s9.rel t9
 have hE:rdE T E pc' ty=⟨true,0,0,.cells pc' ty⟩:=by
  unfold rdE
  rw[hS,he]
  rfl
 have hr:rdR T E = .agg [.int .i64 0,.int .i64 0]:=by
  unfold rdR
  rw[hS,he,hat]
 rw[hE,hr]
 show ∃v,(results Y0g a9.tmps).run Y00 _ = .ok v _/\_
 exact⟨_,Z0R (fn:=Y0g) k2,_,_,_,rfl,Z1n (.agg [.int .i64 0,.int .i64 0]) [] _ (λb hb=>by cases hb) (Z2K (fn:=Y0g) k1),s9.trans hF⟩
theorem Zlp{T:List Tq}{pc:List AV}{ty:TypeId}:∀(i:Nat)(x:AObj),(rdH ⟨true,0,0,.cells pc ty⟩ fO T 0 0)[i]? = some x->x.alive=true->i≠1->x.fam≠fO.fam:=λi x hx hal hi=>by
 match i,hx with
 |0,hx=>cases hx;exact (show (0:Nat)≠1 by decide)
 |1,hx=>exact absurd rfl hi
 |2,hx=>cases hx;exact (show (2:Nat)≠1 by decide)
 |3,hx=>cases hx;exact (show (3:Nat)≠1 by decide)
 |4,hx=>cases hx;exact (show (4:Nat)≠1 by decide)
 |5,hx=>cases hx;exact (show (5:Nat)≠1 by decide)
 |6,hx=>cases hx;exact (show (6:Nat)≠1 by decide)
 |7,hx=>cases hx;exact (show (7:Nat)≠1 by decide)
 |8,hx=>cases hx;exact (show (8:Nat)≠1 by decide)
 |9,hx=>cases hx;exact (show (9:Nat)≠1 by decide)
 |10,hx=>cases hx;exact (show (10:Nat)≠1 by decide)
 |11,hx=>cases hx;exact (show (11:Nat)≠1 by decide)
 |12,hx=>cases hx;exact (show (12:Nat)≠1 by decide)
 |k+13,hx=>cases hx
theorem ZcW:∀{H:Z00}{k i:Nat}{x:AObj},ZiT k H=true->H[i]? = some x->x.alive=true->k+i≠1->x.fam≠1
 |[],k,i,x,h,e,_,_=>by cases e
 |o::H,k,0,x,h,e,ha,hi=>by
  cases e
  simp only[ZiT,Y0y,Bool.or_eq_true]at h
  rcases h.1 with h1|h1|h1
  ·exact absurd (Y0J h1) hi
  ·rw[ha]at h1;cases h1
  ·intro e;rw[e]at h1;cases h1
 |o::H,k,i+1,x,h,e,ha,hi=>by
  simp only[ZiT,Y0y]at h
  exact ZcW h.2 (by simpa using e) ha (by omega)
end
section
variable {gl:Z0k}
def Z2X{f:Nat}{A:List AV}{R:AV}(hb:Z0m Y00 f=true)(hr:refsL A []=[])(h:ValOK Y00 gl f A R):Fam Y00 gl:={ I:=Unit,f:=f,G:=λ_=>True,A:=λ_=>A,R:=λ_=>R,body:=hb,inj:=(λ_ _ _ _ _=>rfl),ok:=(λ_ hG=>⟨hr,h⟩) }
theorem ZnR {T : List Tq} {txt : List UInt8} {c : Nat} {pc pc' : List AV} {ty : TypeId} {E : Ps} (h0 : 0 < T.length) (hcb : Z0m Y00 c = true) (hcn : Z0U [c, 56] = true) (hpr : refsL pc [] = []) (hpr' : refsL pc' [] = []) (hren : ∀ g, renL g pc' = pc')
  (hA:ValOK Y00 gl 53 [.str txt] (.tuple [.rs T.length 4 (tqC T),.agg [.int .i64 0,.int .i64 0]]))
  (hC:MemX Y00 gl (XF E) c [.ptr 0 0,.ptr 11 0] (gB T ⟨0,0,0,0⟩++[⟨true,11,0,.cells pc ty⟩]) (.tuple []) (gB T E++[⟨true,11,0,.cells pc' ty⟩])) (hE:E.err=0->PsOK T E/\E.at_=0) :
  MemQ Y00 gl 1 26 [.str txt,.func (.func c) [] [.ptr 0 0]] [⟨true,0,0,.cells pc ty⟩] (rdR T E) [rdE T E pc' ty]:=by
 intro sn ι W cargs hg hR ha
 obtain⟨OA,hOA,-,⟨pA,-⟩⟩:=Z25 (P:=Y00) (gl:=gl) [] [Z2X (by kernel_rfl) rfl hA] rfl
 have qA:∀H,Z06 Y00 OA H 53 [.str txt]=some (.tuple [.rs T.length 4 (tqC T),.agg [.int .i64 0,.int .i64 0]],H):=λH=>pA () trivial H
 obtain⟨O,hO,⟨p1,p2,-⟩,-⟩:=Z2w (P:=Y00) (gl:=gl) (XF (Z2x T E)) [
  { I:=Unit,f:=c,X:=λ_=>XF (Z2x T E),G:=λ_=>True,A:=λ_=>[.ptr 12 0,.ptr 0 0],H:=λ_=>rdH ⟨true,0,0,.cells pc ty⟩ fD T 0 0,R:=λ_=>.tuple [],O:=λ_=>cond (E.err==0) (rdH ⟨true,0,0,.cells pc' ty⟩ fD T E.i E.op) (gD E),body:=hcb,inj:=(λ_ _ _ _ _ _=>⟨rfl,rfl⟩),ok:=λ_ _=>ZoV hpr hpr' hren hC },
  { I:=Unit,f:=56,X:=λ_=>XF (Z2x T E),G:=λ_=>E.err=0/\(Z0r T E).kind≠5,A:=λ_=>[.ptr 12 0,.int .i64 5],H:=λ_=>rdH ⟨true,0,0,.cells pc' ty⟩ fD T E.i E.op++[⟨true,13,0,.cells (Z0r T E).cells 38⟩],R:=λ_=>.tuple [],O:=λ_=>gD E,body:=(by kernel_rfl),inj:=(λ_ _ _ _ _ _=>⟨rfl,rfl⟩),ok:=λ_ h=>Zma (hE h.1).1 h.1 h.2 }] [] hcn
 have q1:Z06 Y00 O (rdH ⟨true,0,0,.cells pc ty⟩ fD T 0 0) c [.ptr 12 0,.ptr 0 0]=some (.tuple [],cond (E.err==0) (rdH ⟨true,0,0,.cells pc' ty⟩ fD T E.i E.op) (gD E)):=p1 () trivial (λu h=>h)
 have hrd:=ZpS (gl:=gl) (orc:=OA) (O:=O) (txt:=txt) (c:=c) (pc:=pc) (pc':=pc') (ty:=ty) (E:=E) h0 qA (λhe=>by rw[show (E.err==0)=false by simpa using he]at q1;exact q1) (λhe=>⟨(hE he).1,by rw[show (E.err==0)=true by simpa using he]at q1;exact q1⟩) (λhe hk=>p2 () ⟨he,hk⟩ (λu h=>h))
 clear q1 p1 p2 qA pA
 rw[Z1L]at hrd
 have hOA':OrcSoundX (λ_=>False) Y00 gl (Z8h Y00 gl OA ZkS 3):=Z1F follows Z05 hOA.x 3
 have hcA:Z5O Y00 (Z8h Y00 gl OA ZkS 3) (Z74 Y00 gl OA ZkS 3):=Z0f 3
 have hON:OrcSoundX (λ_=>False) Y00 gl (oN0 gl):=Z1F follows Z05 (Z0g (gl:=gl)).x 3
 have hcN:Z5O Y00 (oN0 gl) (cN0 gl):=Z0f 3
 have hOR:OrcSoundX (XF (Z2x T E)) Y00 gl (oR gl O):=Z1F follows Z05 hO 3
 have hcR:Z5O Y00 (oR gl O) (cR gl O):=Z0f 3
 refine .inl (calls_of_wp_defers Tryz.func26 rfl ((wpIn_wide (n:=0)).1 ?_))
 show Code.wpIn (Fq none) 0 Y00 (Code.seq (sqL (rdT 0)) (rdT 1)) _ _ _
 refine Zcl hOA' hcA hrd hg hR (Z3R ha _ _ _) (λtm1 H1 a1 W1 sn1 ι1 h1 s1 t1 d1=>?_)
 show Code.wpIn (Fq none) 0 Y00 (Code.seq (sqL (rdT 1)) (rdT 2)) _ _ _
 refine Zcl hOA' hcA h1 (hg.mono (Z38 s1.le)) s1.rel t1 (λtm2 H2 a2 W2 sn2 ι2 h2 s2 t2 d2=>?_)
 replace s2:=s1.trans s2
 show Code.wpIn (Fq none) 0 Y00 (Code.seq (sqL (rdT 2)) (rdT 3)) _ _ _
 refine Zcl hOA' hcA h2 (hg.mono (Z38 s2.le)) s2.rel t2 (λtm3 H3 a3 W3 sn3 ι3 h3 s3 t3 d3=>?_)
 replace s3:=s2.trans s3
 have e3:a3.defers=[]:=d3.trans (d2.trans d1)
 clear hrd h1 h2 s1 s2 t1 t2 d1 d2 d3
 show Code.wpIn (Fq none) 0 Y00 (Code.seq (sqL (rdT 3)) (rdT 4)) _ _ _
 refine wpIn_seq ?_
 refine (wpIn_region_list (id:=4) (ops:=rgO (sqL (rdT 3))) ?_:Code.wpIn (Fq none) 0 Y00 (sqL (rdT 3)) _ _ _)
 unfold K3 at h3
 obtain⟨r,H4,hop,h3⟩:=ZfL _ hcN h3
 obtain⟨tm4,hp4,rfl,h4⟩:=Z04 h3
 show wpListIn (Fq none) 0 Y00 _ _ ((rgO (sqL (rdT 3))).toList.headD default::[(rgO (sqL (rdT 3))).toList.getD 1 default]) _ _
 refine wpListIn_plain rfl λK hK=>?_
 refine Z44 (X:=λ_=>False) Z05 hON (hg.mono (Z38 s3.le)) s3.rel (Z1e (hg.mono (Z38 s3.le)) t3) hop (λv W4 sn4 ι4 hv s4=>hK _ _ ?_) (λch W' p=>p.no.elim)
 have t4:TRel sn4 ι4 tm4 (a3.put (some 16) v):=Z2r (t3.mono s4.le) hv hp4
 replace s4:=s3.trans (s4.q s3.rel)
 obtain⟨fp,rfl,hfp⟩:∃fp,v = .func (.func 54) #[] #[fp]/\VR sn4 ι4 (.ptr 1 0) fp:=by
  simp only[VR,LR]at hv⊢
  obtain⟨f,cc,rfl,h1,fp,l,h2,h3,rfl⟩:=hv
  have e1:f = #[]:=Y0I.1 h1
  have e2:cc = #[fp]:=Y0I.1 h2
  exact⟨fp,by rw[e1,e2],h3⟩
 have h16:(a3.put (some 16) (.func (.func 54) #[] #[fp])).tmps[16]? = some (.func (.func 54) #[] #[fp]):=by
  have:(a3.put (some 16) (.func (.func 54) #[] #[fp])).tmps[16]? = (a3.tmps.setIfInBounds 16 (.func (.func 54) #[] #[fp]))[16]?:=rfl
  obtain⟨g1,-,-⟩:=Z3l _ _ _ _ hp4
  rw[this,Y0A,if_pos rfl,if_pos (t3.2 16 g1)]
 have hdst:((rgO (sqL (rdT 3))).toList.headD default).dst=some 16:=rfl
 rw[hdst]
 have ho:((rgO (sqL (rdT 3))).toList.getD 1 default).op = .defer { callee:=.value (.tmp 16),args:=#[],argTypes:=#[] }:=rfl
 have hod:((rgO (sqL (rdT 3))).toList.getD 1 default).dst=none:=rfl
 refine wpListIn_plain rfl λK2 hK2=>?_
 generalize (rgO (sqL (rdT 3))).toList.getD 1 default=o2 at *
 refine⟨λf _=>trivial,?_⟩
 have hrun:(Oper.semAt (Fq none).round (a3.put (some 16) (.func (.func 54) #[] #[fp])).eval o2).run Y00 W4 = .ok (.defer { target:=.fn (.func 54) #[fp],args:=#[] }) W4:=by
  have he:(a3.put (some 16) (.func (.func 54) #[] #[fp])).eval (.tmp 16) = .func (.func 54) #[] #[fp]:=by
   show (a3.put (some 16) (.func (.func 54) #[] #[fp])).tmps.getD 16 undef=_
   rw[Array.getD_eq_getD_getElem?,h16];rfl
  show (execOp (a3.put (some 16) (.func (.func 54) #[] #[fp])).eval o2).run Y00 W4=_
  simp only[execOp,ho,resolve,he,Array.map_empty,Deferred.ofValue]
  rfl
 rw[hrun,Oper.uponIn_defer]
 refine hK2 _ _ (wpListIn_nil ?_)
 generalize ha5:Act.put { a3.put (some 16) (.func (.func 54) #[] #[fp])with defers:={ target:=.fn (.func 54) #[fp],args:=#[] }::(a3.put (some 16) (.func (.func 54) #[] #[fp])).defers } o2.dst undef=a5
 have t5:TRel sn4 ι4 tm4 a5:=by rw[<- ha5,hod];exact⟨t4.1,t4.2⟩
 have e5:a5.defers=[{ target:=.fn (.func 54) #[fp],args:=#[] }]:=by
  rw[<- ha5,hod]
  show _::a3.defers=_
  rw[e3]
 show Code.wpIn (Fq none) 0 Y00 (Code.seq (sqL (rdT 4)) (rdT 5)) _ a5 W4
 refine Zcl hON hcN h4 (hg.mono (Z38 s4.le)) s4.rel t5 (λtm5 H5 a6 W5 sn5 ι5 h5 s5 t6 d6=>?_)
 have e6:=d6.trans e5
 have hfp5:VR sn5 ι5 (.ptr 1 0) fp:=by
  simp only[VR]at hfp⊢
  obtain⟨q,q1,q2⟩:=hfp
  exact⟨q,s5.keep 1 q (by decide) q1,q2⟩
 replace s5:=s4.trans s5
 obtain⟨⟨rfl,h54⟩,h5⟩:=h5
 have hg5:=hg.mono (Z38 s5.le)
 have hkil:=Stp.kil s5.rel (λi _=>Y04 i 1)
 obtain⟨tm6,H6,hseq,h6⟩:=Z4K _ _ _ _ hcR h5
 have hnt:∀o∈(rgO (sqL (rdT 5))).toList,o.dst≠some 4:=by decide
 have pan : ∀ (a' : Act) (ch : List PanicEntry) (W' : World), a'.defers = a6.defers -> a'.tmps[4]? = a6.tmps[4]? -> a'.tmps.size = a6.tmps.size -> PanR (XF (Z2x T E)) sn5 ι5 (rdH ⟨true, 0, 0, .cells pc ty⟩ fD T 0 0) W5 ch W' ->
   bodyPostD Y00 Y0g (λe W1=>∃v sn' ι',e = .returned v/\VR sn' ι' (rdR T E) v/\Stq 1 sn ι [⟨true,0,0,.cells pc ty⟩] W sn' ι' [rdE T E pc' ty] W1) (.panic ch) a' W':=λa' ch W' k1 k2 k3 p =>
  ZmN s5 (λn hx=>by rw[k3];exact t6.2 n hx) h54 hfp5 (k1.trans e6) (by rw[k2];exact t6.1 4 _ h54) p
 show Code.wpIn (Fq none) 0 Y00 (Code.seq (sqL (rdT 5)) (rdT 6)) _ a6 W5
 refine wpIn_seq ?_
 refine (wpIn_region_list (id:=6) (ops:=rgO (sqL (rdT 5))) ?_:Code.wpIn (Fq none) 0 Y00 (sqL (rdT 5)) _ _ _)
 refine Z4m (t:=4) Z05 hOR (rgO (sqL (rdT 5))) _ _ _ _ _ a6 W5 sn5 ι5 hnt hseq hg5 hkil.rel t6 (λa7 W6 sn6 ι6 s6 t7 d7=>?_) pan
 rcases h6 with h6|h6
 ·exact (Z3w s6.rel h6).elim
 have e7:=d7.trans e6
 replace s6:Stq 2 sn5 ι5 (ZpV 1 (rdH ⟨true,0,0,.cells pc ty⟩ fO T 0 0)) W5 sn6 ι6 H6 W6:=s6.q hkil.rel
 show Code.wpIn (Fq none) 0 Y00 (Code.seq (sqL (rdT 6)) (rdT 7)) _ a7 W6
 refine wpIn_seq ?_
 show Code.wpIn (Fq none) 0 Y00 (Code.seq (sqL (sqL (rdT 6))) (sqR (sqL (rdT 6)))) _ a7 W6
 unfold K6 at h6
 refine Zcl hON hcN h6 (hg5.mono (Z38 s6.le)) s6.rel t7 (λtm7 H7 a8 W7 sn7 ι7 h7 s7 t8 d8=>?_)
 have e8:=d8.trans e7
 replace s7:=s6.trans s7
 unfold K7 at h7
 obtain⟨v,hv,h7⟩:=Z04 h7
 split at h7
 case h_2=>exact h7.elim
 rename_i t
 have hc:=(Z1e (hg5.mono (Z38 s7.le)) t8 _ _ hv).bool
 cases t with
 |true =>
  obtain⟨h74,h8⟩:=h7.1 rfl
  obtain⟨tm8,H8,hseq8,hd8⟩:=Z4K _ _ _ _ hcR h8
  refine wpIn_cond_true hc ?_
  refine (wpIn_region_list (id:=8) (ops:=rgO (match sqR (sqL (rdT 6))with | .cond _ a _=>a|c=>c)) ?_:Code.wpIn (Fq none) 0 Y00 (match sqR (sqL (rdT 6))with | .cond _ a _=>a|c=>c) _ _ _)
  refine Z4m (t:=4) Z05 hOR (rgO (match sqR (sqL (rdT 6))with | .cond _ a _=>a|c=>c)) _ _ _ _ _ a8 W7 sn7 ι7 (by decide) hseq8 (hg5.mono (Z38 s7.le)) s7.rel t8 (λa9 W8 sn8 ι8 s8 t9 d9=>(Z3w s8.rel hd8).elim) (λa' ch W' k1 k2 k3 p=>?_)
  refine ZmN s5 (λn hx=>by rw[k3];exact t8.2 n hx) h74 hfp5 (k1.trans e8) ?_ (p.backQ s7)
  rw[k2]
  obtain⟨y,y1,y2⟩:=t8.1 4 _ h74
  refine⟨y,y1,?_⟩
  simp only[VR]at y2 hfp5⊢
  obtain⟨q,q1,q2⟩:=y2
  obtain⟨q',q1',-⟩:=hfp5
  have:=s7.keep 1 q' (by decide) q1'
  rw[q1]at this
  cases this
  exact⟨q,q1',q2⟩
 |false =>
  obtain⟨⟨hx1,hx2⟩,h9⟩:=h7.2 rfl
  refine wpIn_cond_false hc (wpIn_skip ?_)
  show Code.wpIn (Fq none) 0 Y00 (rdT 7) _ a8 W7
  have s9:=ZpP (k:=2) (b:=1) (o:=fO) s5.rel rfl rfl (by decide) rfl Zlp s7 hx1 rfl (λi y hi hy=>by
   by_cases h:i=1
   · subst h
     rw[hx1]at hi
     cases hi
     cases hy
   ·exact ZcW (k:=0) hx2 hi hy (by omega))
  rw[Z0u]at h9
  refine Zco (X:=λ_=>False) (rd:=none) follows Z05 hON hcN (rdT 7) h9 a8 W7 sn7 ι7 _ (hg5.mono (Z38 s7.le)) s9.rel t8 (λx tm9 H9 a9 W9 sn9 ι9 hx s10 t9 d9=>?_) (λa' ch W' hd p=>p.no.elim)
  cases x with
  |normal=>exact hx.elim
  |exit id=>exact hx.elim
  |ret =>
   obtain⟨⟨he,hk5⟩,h94,X,rfl⟩:=hx
   show Leaves Y00 Y0g a9.tmps _ a9.defers .returning W9
   exact ZpR hpr' he hk5 (hE he).2 (Stq.one (s5.trans (s9.trans s10)) (by decide)) t9 h94 (d9.trans e8)
end
end Go.Proofs.YtneoiadnbikciaaGreatDoor.lex
namespace Go.Proofs.YtneoiadnbikciaaGreatDoor.lex.pg
open Go.Abs Go.RowKit
section
variable {gl:Z0k}
theorem ZfV(n:Int):ValOK Y00 gl 123 [.int .u8 n] (.bool (Z4S n)):=by
 refine Z0v follows Z05 Z0g Tryz.func123 rfl ?_
 repeat' ((conv=>whnf);first|refine stp ?_|with_reducible apply Z01<;>intro h)
 all_goals (try simp_all[Z0Y,Z4S])
 all_goals omega
theorem Zgm(n:Int):ValOK Y00 gl 125 [.int .u8 n] (.bool (Z0W n)):=by
 refine Z0v follows Z05 Z0g Tryz.func125 rfl ?_
 repeat' ((conv=>whnf);first|refine stp ?_|with_reducible apply Z01<;>intro h)
 all_goals (try simp_all[Z0Y,Z0W])
 all_goals omega
theorem Znh(n:Int):ValOK Y00 gl 113 [.int .u8 n] (.bool (Z4l n)):=by
 refine Z0v follows Z05 Z0g Tryz.func113 rfl ?_
 repeat' ((conv=>whnf);first|refine stp ?_|with_reducible apply Z01<;>intro h)
 all_goals (try simp_all[Z0Y,Z4l])
theorem Zbx(n:Int):ValOK Y00 gl 67 [.int .u8 n] (.bool (Z4S n)):=by
 refine Z0v follows Z05 Z0g Tryz.func67 rfl ?_
 repeat' ((conv=>whnf);first|refine stp ?_|with_reducible apply Z01<;>intro h)
 all_goals (try simp_all[Z0Y,Z4S])
 all_goals omega
theorem ZbS(n:Int):ValOK Y00 gl 68 [.int .u8 n] (.bool (Z0W n)):=by
 refine Z0v follows Z05 Z0g Tryz.func68 rfl ?_
 repeat' ((conv=>whnf);first|refine stp ?_|with_reducible apply Z01<;>intro h)
 all_goals (try simp_all[Z0Y,Z0W])
 all_goals omega
theorem ZbY(n:Int):ValOK Y00 gl 30 [.int .u8 n] (.bool (Z4l n)):=by
 refine Z0v follows Z05 Z0g Tryz.func30 rfl ?_
 repeat' ((conv=>whnf);first|refine stp ?_|with_reducible apply Z01<;>intro h)
 all_goals (try simp_all[Z0Y,Z4l])
theorem Zjn(n:Int):ValOK Y00 gl 115 [.int .u8 n] (.bool (n != 10)):=by
 refine Z0v follows Z05 Z0g Tryz.func115 rfl ?_
 repeat' ((conv=>whnf);first|refine stp ?_|with_reducible apply Z01<;>intro h)
 all_goals (try simp_all[Z0Y])
def F1(f:Nat)(xs:List AV):Option AV:=match f with
 |123=>match xs with|[.int .u8 n]=>some (.bool (Z4S n))|_=>none
 |125=>match xs with|[.int .u8 n]=>some (.bool (Z0W n))|_=>none
 |113=>match xs with|[.int .u8 n]=>some (.bool (Z4l n))|_=>none
 |67=>match xs with|[.int .u8 n]=>some (.bool (Z4S n))|_=>none
 |68=>match xs with|[.int .u8 n]=>some (.bool (Z0W n))|_=>none
 |30=>match xs with|[.int .u8 n]=>some (.bool (Z4l n))|_=>none
 |115=>match xs with|[.int .u8 n]=>some (.bool (n != 10))|_=>none
 |_=>none
theorem Z8M:OrcSound Y00 gl (Z6v F1):=Z0J λf xs r h=>by
 unfold F1 at h
 split at h<;>try (cases h;done)
 all_goals (split at h<;>cases h)
 ·exact⟨rfl,ZfV _⟩
 ·exact⟨rfl,Zgm _⟩
 ·exact⟨rfl,Znh _⟩
 ·exact⟨rfl,Zbx _⟩
 ·exact⟨rfl,ZbS _⟩
 ·exact⟨rfl,ZbY _⟩
 ·exact⟨rfl,Zjn _⟩
theorem ZaZ(n:Int):ValOK Y00 gl 124 [.int .u8 n] (.bool (Z4s n)):=by
 refine Z0v follows Z05 Z8M Tryz.func124 rfl ?_
 repeat' ((conv=>whnf);first|refine stp ?_|with_reducible apply Z01<;>intro h)
 all_goals (try simp_all[Z0Y,Z4s])
def F2(f:Nat)(xs:List AV):Option AV:=match f with
 |124=>match xs with|[.int .u8 n]=>some (.bool (Z4s n))|_=>none
 |f=>F1 f xs
theorem ZaU{f:Nat}{xs:List AV}{r:AV}(h:F2 f xs=some r):plain r=true/\ValOK Y00 gl f xs r:=by
 unfold F2 at h
 split at h
 · split at h<;>cases h
   exact⟨rfl,ZaZ _⟩
 · have:=h
   unfold F1 at h
   split at h<;>try (cases h;done)
   all_goals (split at h<;>cases h)
   ·exact⟨rfl,ZfV _⟩
   ·exact⟨rfl,Zgm _⟩
   ·exact⟨rfl,Znh _⟩
   ·exact⟨rfl,Zbx _⟩
   ·exact⟨rfl,ZbS _⟩
   ·exact⟨rfl,ZbY _⟩
   ·exact⟨rfl,Zjn _⟩
theorem Zce:OrcSound Y00 gl (Z6v F2):=Z0J λf xs r h=>ZaU h
theorem Z3E (g : Nat) (p : Int -> Bool) (hF : ∀ n, F2 g [.int .u8 n] = some (.bool (p n))) (hb : Z0m Y00 g = true) (s : List UInt8) (hs : s.length <= 9223372036854775807) :
  ValOK Y00 gl 112 [.str s,.func (.func g) [] []] (.int .i64 (Z0d p s)):=by
 refine Z0v follows Z05 Zce Tryz.func112 rfl ?_
 conv=>whnf
 refine⟨Nat,(λk=>k<=s.length/\Z0d p s=k+Z0d p (s.drop k)),(λk=>[(0,.str s),(1,.func (.func g) [] []),(5,.int .i64 k)]),(λ_=>[]),(λk=>s.length-k),⟨0,⟨Y0n _,by simp⟩,?_⟩,?_⟩
 · refine FgL.mk0 rfl ?_
   refine Y0b (Y03 rfl) ?_
   refine Y0b (Y03 rfl) ?_
   refine Y0b (Y03 rfl) ?_
   trivial
 · intro k ⟨hk,hsp⟩
   by_cases hlt:k<s.length
   · have e1:decide ((k:Int)<(s.length:Int))=true:=by simpa using hlt
     have hc:s[k]? = some s[k]:=by simp[hlt]
     have hd:s.drop k=s[k]::s.drop (k+1):=Y0v hlt
     cases hp:p s[k].toNat with
     |true =>
      repeat' ((conv=>whnf);first|with_reducible refine ixS _ rfl hc ?_|with_reducible refine exI (Z1d hb rfl (hF _)) ?_|refine stp ?_|with_reducible apply Z01<;>intro h)
      (conv=>whnf)
      have hn:=Z1i (s.drop (k+1)) hp
      rw[<- hd]at hn
      exact⟨k+1,⟨hlt,by omega⟩,by show s.length-(k+1)<s.length-k;omega,FgL.mk0 rfl ⟨Y03 rfl,Y03 rfl,Y06 rfl,trivial⟩⟩
     |false =>
      repeat' ((conv=>whnf);first|with_reducible refine ixS _ rfl hc ?_|with_reducible refine exI (Z1d hb rfl (hF _)) ?_|refine stp ?_|with_reducible apply Z01<;>intro h)
      have hn:=Z1r (s.drop (k+1)) hp
      rw[<- hd]at hn
      rw[hsp,hn];rfl
   · have e1:decide ((k:Int)<(s.length:Int))=false:=by simpa using hlt
     have hk':k=s.length:=by omega
     repeat' ((conv=>whnf);first|refine stp ?_|with_reducible apply Z01<;>intro h)
     rw[hsp,hk'];simp[Z0Y,Z0d]
def ZnJ(g:Nat)(s:List UInt8):Option AV:=match g with
 |124=>some (.int .i64 (Z0d Z4s s))
 |125=>some (.int .i64 (Z0d Z0W s))
 |113=>some (.int .i64 (Z0d Z4l s))
 |115=>some (.int .i64 (Z0d (· != 10) s))
 |_=>none
def F3(f:Nat)(xs:List AV):Option AV:=match f with
 |112=>match xs with
  |[.str s,.func (.func g) [] []]=>if s.length<=9223372036854775807 then ZnJ g s else none
  |_=>none
 |f=>F2 f xs
theorem Z2n:OrcSound Y00 gl (Z6v F3):=Z0J λf xs r h=>by
 unfold F3 at h
 split at h
 · split at h<;>try (cases h;done)
   split at h<;>try (cases h;done)
   rename_i hs
   unfold ZnJ at h
   split at h<;>cases h
   ·exact⟨rfl,Z3E 124 Z4s (λ_=>rfl) (by kernel_rfl) _ hs⟩
   ·exact⟨rfl,Z3E 125 Z0W (λ_=>rfl) (by kernel_rfl) _ hs⟩
   ·exact⟨rfl,Z3E 113 Z4l (λ_=>rfl) (by kernel_rfl) _ hs⟩
   ·exact⟨rfl,Z3E 115 (· != 10) (λ_=>rfl) (by kernel_rfl) _ hs⟩
 · have hk:plain r=true/\ValOK Y00 gl f xs r:=ZaU h
   exact hk
theorem ZdZ(s:List UInt8)(hs:s.length<=9223372036854775807):ValOK Y00 gl 116 [.str s] (.int .i64 (Z0j s)):=by
 match s with
 |[] =>
  refine Z0v follows Z05 Z2n Tryz.func116 rfl ?_
  repeat' ((conv=>whnf);first|refine stp ?_|with_reducible apply Z01<;>intro h)
  all_goals (try simp_all[Z0Y,Z0j])
 |c::s =>
  have h1:((c::s)==[])=false:=by simp
  have h2:(c::s)[0]? = some c:=rfl
  refine Z0v follows Z05 Z2n Tryz.func116 rfl ?_
  repeat' ((conv=>whnf);first|with_reducible refine ixS 0 rfl h2 ?_|refine stp ?_|with_reducible apply Z01<;>intro h)
  all_goals (try (simp_all[Z0Y,Z0j];done))
theorem Zfx:∀s,skip false s=Z0d Z4l s+skip false (s.drop (Z0d Z4l s))
 |[]=>by simp[skip,Z0d]
 |c::s=>by
  cases hc:Z4l c.toNat with
  |true=>rw[Z1i s hc];simp[skip,hc,-Y0w];rw[Zfx s];omega
  |false=>rw[Z1r s hc];simp
theorem Zld{s:List UInt8}(h:s.take 2=[47,47]):skip false s=skip true s/\0<Z0d (· != 10) s:=by
 match s with
 |[]=>simp at h
 |[a]=>simp at h
 |a::b::s =>
  simp at h
  obtain⟨rfl,rfl⟩:=h
  refine⟨?_,?_⟩
  · have:Z4l ((47:UInt8).toNat:Int)=false:=by decide
    simp at this;simp[skip,this]
  ·rw[Z1i _ (by decide)];omega
theorem Zfw{s:List UInt8}(hb:Z0d Z4l s=0)(h:¬s.take 2=[47,47]):skip false s=0:=by
 match s with
 |[]=>simp[skip]
 |c::s =>
  cases hc:Z4l c.toNat with
  |true=>rw[Z1i s hc]at hb;omega
  |false =>
   have:¬(c=47/\s.head? = some 47):=by
    rintro⟨rfl,h2⟩
    match s with
    |[]=>simp at h2
    |a::s=>simp at h2;subst h2;simp at h
   simp[skip,hc,this]
theorem Zqq(s:List UInt8)(hs:s.length<=9223372036854775807):ValOK Y00 gl 98 [.str s] (.int .i64 (skip false s)):=by
 refine Z2f (λg=>g != 114&&g != 122) 2 follows Z05 Z2n Tryz.func98 rfl ?_
 conv=>whnf
 refine⟨Nat,(λk=>k<=s.length/\skip false s=k+skip false (s.drop k)),(λk=>[(0,.str s),(3,.int .i64 k)]),(λ_=>[]),(λk=>s.length-k),⟨0,⟨Y0n _,by simp⟩,?_⟩,?_⟩
 · refine FgL.mk0 rfl ?_
   refine Y0b (Y03 rfl) ?_
   refine Y0b (Y03 rfl) ?_
   trivial
 · intro k ⟨hk,hsk⟩
   have h1:Z0d Z4l (s.drop k)<=s.length-k:=by have:=Z4f Z4l (s.drop k);simpa using this
   have h1':(s.drop k).length<=9223372036854775807:=by simp;omega
   have h2:=Zfx (s.drop k)
   have h3:=Zaf Z4l (s.drop k)
   rw[Y0w]at h2 h3
   have h5:Z0d (· != 10) (s.drop (k+Z0d Z4l (s.drop k)))<=s.length-(k+Z0d Z4l (s.drop k)):=by have:=Z4f (· != 10) (s.drop (k+Z0d Z4l (s.drop k)));simpa using this
   have h6:=Zbi (s.drop (k+Z0d Z4l (s.drop k)))
   rw[Y0w]at h6
   repeat' ((conv=>whnf);first|(with_reducible refine ZrT 2 ?_ ?_ ?_;(focus (decide));(focus (simp at h⊢;omega)))|refine stp ?_|with_reducible apply Z01<;>intro h)
   · have:=Zfw h3 (by simpa using h)
     show AV.int .i64 _=_
     rw[hsk,h2,this];rfl
   · conv=>whnf
     obtain⟨h7,h8⟩:=Zld (s:=s.drop (k+Z0d Z4l (s.drop k))) (by simpa using h)
     refine⟨k+Z0d Z4l (s.drop k)+Z0d (· != 10) (s.drop (k+Z0d Z4l (s.drop k))),⟨by omega,by omega⟩,by show s.length-(_)<s.length-k;omega,FgL.mk0 rfl ⟨Y03 rfl,Y06 rfl,trivial⟩⟩
   · have := Zfw h3 (by
      simp at h
      intro he
      have:=congrArg List.length he
      simp at this;omega)
     show AV.int .i64 _=_
     rw[hsk,h2,this];rfl
def sgnL:List UInt8:=[124,38,61,33,60,43,45,42,94,40,41,123,125,44,59]
theorem ZmV(b:UInt8):∀(l:List UInt8)(k:Nat),decide (ixB b l k >= (0:Int))=l.contains b
 |[],k=>by simp[ixB]
 |c::l,k=>by
  have ih:=ZmV b l (k+1)
  by_cases h:c=b
  ·subst h;simp[ixB]
  · have h':¬b=c:=λe=>h e.symm
    have h2:(c.toNat.beq b.toNat)=false:=by
     cases e:c.toNat.beq b.toNat with
     |false=>rfl
     |true=>exact absurd (UInt8.toNat_inj.1 (Y0J e)) h
    unfold ixB
    rw[h2]
    simp[h']at ih⊢
    exact ih
theorem ZpM(c:UInt8):decide (ixB (UInt8.ofNat c.toNat) { data:=#[124,38,61,33,60,43,45,42,94,40,41,123,125,44,59]:ByteArray }.data.toList 0 >= (0:Int))=sgnL.contains c:=by
 rw[ZmV];simp[sgnL]
theorem Zli(c:UInt8):ValOK Y00 gl 118 [.str [c]] (.int .i64 (Z0i [c])):=by
 have h2:([c])[0]? = some c:=rfl
 have s0:=ZpM c
 have e1:=Z5F c 124 (by decide)
 have e2:=Z5F c 38 (by decide)
 have e3:=Z5F c 61 (by decide)
 have e4:=Z5F c 33 (by decide)
 have e5:=Z5F c 60 (by decide)
 refine Z2f (λg=>g != 127&&g != 130) 2 follows Z05 Z2n Tryz.func118 rfl ?_
 repeat' ((conv=>whnf);first|with_reducible refine ixS 0 rfl h2 ?_|refine stp ?_|with_reducible apply Z01<;>intro h)
 all_goals show AV.int .i64 _=AV.int .i64 _
 all_goals congr 1
 all_goals (first|(exfalso;simp at *;omega)|(simp_all[Z0i,sgnL];done)|(have h0:c=0:=(by apply UInt8.toNat_inj.1;simp at *;omega);subst h0;first|(exfalso;revert h;decide)|decide))
theorem Zlh(c d:UInt8)(t:List UInt8)(hs:(c::d::t).length<=9223372036854775807):ValOK Y00 gl 118 [.str (c::d::t)] (.int .i64 (Z0i (c::d::t))):=by
 have h2:(c::d::t)[0]? = some c:=rfl
 have h3:(c::d::t)[1]? = some d:=rfl
 have h4:decide (((c::d::t).length:Int)>1)=true:=by simp;omega
 have s0:=ZpM c
 have e1:=Z5F c 124 (by decide)
 have e2:=Z5F c 38 (by decide)
 have e3:=Z5F c 61 (by decide)
 have e4:=Z5F c 33 (by decide)
 have e5:=Z5F c 60 (by decide)
 have e6:=Z5F d 61 (by decide)
 have e7:((d.toNat:Int)==(c.toNat:Int))=(d==c):=by
  by_cases e:d=c
  ·subst e;simp
  · have:d.toNat≠c.toNat:=λe'=>e (UInt8.toNat_inj.1 e')
    rw[beq_eq_false_iff_ne.2 e,beq_eq_false_iff_ne];omega
 refine Z2f (λg=>g != 127&&g != 130) 2 follows Z05 Z2n Tryz.func118 rfl ?_
 repeat' ((conv=>whnf);first|with_reducible refine ixS 0 rfl h2 ?_|with_reducible refine ixS 1 rfl h3 ?_|refine stp ?_|with_reducible apply Z01<;>intro h)
 all_goals show AV.int .i64 _=AV.int .i64 _
 all_goals congr 1
 all_goals (first|(exfalso;simp at *;omega)|(simp_all[Z0i,sgnL];done))
theorem ZnL(s:List UInt8)(hs:s.length<=9223372036854775807)(h0:s≠[]):ValOK Y00 gl 118 [.str s] (.int .i64 (Z0i s)):=by
 match s with
 |[]=>exact absurd rfl h0
 |[c]=>exact Zli c
 |c::d::t=>exact Zlh c d t hs
end
section
variable {gl:Z0k}
def puR(n:Nat):AV:=if n<18446744073709551616 then .tuple [.int .u64 n,.niface] else .tuple [.int .u64 18446744073709551615,.iface 154 (.int .i64 1)]
theorem Ziv{n:Nat}(h:18446744073709551616<=n):AV.tuple [AV.int IntKind.u64 18446744073709551615,AV.iface 154 (AV.int IntKind.i64 1)]=puR n:=by
 unfold puR;rw[if_neg (by omega)]
theorem Zrc(l:List UInt8)(h0:l≠[])(hl:l.length<=9223372036854775807)(hd:∀c∈l,Z0W c.toNat=true):ValOK Y00 gl 131 [.str l,.int .i64 10,.int .i64 64] (puR (Z2U l)):=by
 have h1:(l==[])=false:=by simpa using h0
 refine Z0v follows Z05 Z2n Tryz.func131 rfl ?_
 repeat' ((conv=>whnf);first|refine stp ?_|with_reducible apply Z01<;>intro h)
 conv=>whnf
 refine⟨Nat,(λk=>k<=l.length/\Z2U (l.take k)<18446744073709551616),(λk=>[(1,.int .i64 10),(8,.bool false),(10,.int .u64 1844674407370955162),(11,.int .u64 18446744073709551615),(12,.bool false),(13,.int .u64 (Z2U (l.take k))),(99,.rs l.length 1 (l.map λb=>.int .u8 b.toNat)),(100,.int .i64 l.length),(101,.int .i64 k)]),(λ_=>[]),(λk=>l.length-k),⟨0,⟨Y0n _,by simp[Z2U]⟩,?_⟩,?_⟩
 ·exact FgL.mk0 rfl ⟨Y06 rfl,Y03 rfl,Y06 rfl,Y06 rfl,Y03 rfl,Y06 rfl,Y03 rfl,Y06 rfl,Y06 rfl,trivial⟩
 · intro k ⟨hk,hv⟩
   by_cases hlt:k<l.length
   · have e1:decide ((k:Int)<(l.length:Int))=true:=by simpa using hlt
     have hc:tk 1 (List.drop (k*1) (l.map λb=>AV.int .u8 b.toNat))=some [AV.int .u8 l[k].toNat]:=by
      rw[Nat.mul_one,Y0v (by simpa using hlt)];simp[tk]
     have hdk:48<=l[k].toNat/\l[k].toNat<=57:=by have:=hd l[k] (List.getElem_mem hlt);simp[Z0W]at this;omega
     have hm1:=Z4A l k hlt
     have hm2:=Zct l l.length (Y0a _) (k+1) hlt
     rw[Y0D]at hm2
     generalize hcc:l[k].toNat=c at *
     repeat' ((conv=>whnf);first|with_reducible refine exI hc ?_|refine stp ?_|with_reducible apply Z01<;>intro h)
     ·exfalso;simp only[IntKind.wrap_u8,decide_eq_true_eq]at h;omega
     ·refine Ziv ?_;simp only[decide_eq_true_eq]at h;omega
     ·rename_i g;refine Ziv ?_;simp only[decide_eq_true_eq,decide_eq_false_iff_not,ZpI,IntKind.wrap_u8]at h g;omega
     ·rename_i g _;simp only[decide_eq_true_eq,decide_eq_false_iff_not,ZpI,IntKind.wrap_u8]at h g;omega
     · rename_i g1 g2 g3
       conv=>whnf
       have e:IntKind.u64.wrap (IntKind.u64.wrap (↑(Z2U (List.take k l))*IntKind.u64.wrap 10)+IntKind.u64.wrap (IntKind.u8.wrap (↑c-48)))=(Z2U (l.take (k+1)):Int):=by
        simp only[decide_eq_true_eq,decide_eq_false_iff_not,ZpI,IntKind.wrap_u8]at g2 g3 h⊢;omega
       have e':Z2U (l.take (k+1))<18446744073709551616:=by
        simp only[decide_eq_true_eq,decide_eq_false_iff_not,ZpI,IntKind.wrap_u8]at g2 g3 h e;omega
       rw[e]
       exact⟨k+1,⟨hlt,e'⟩,by show l.length-(k+1)<l.length-k;omega,FgL.mk0 rfl ⟨Y06 rfl,Y03 rfl,Y06 rfl,Y06 rfl,Y03 rfl,Y06 rfl,Y03 rfl,Y06 rfl,Y06 rfl,trivial⟩⟩
   · have e1:decide ((k:Int)<(l.length:Int))=false:=by simpa using hlt
     have hk':k=l.length:=by omega
     repeat' ((conv=>whnf);first|refine stp ?_|with_reducible apply Z01<;>intro h)
     rw[hk',Y0D]at hv⊢
     unfold puR;rw[if_pos hv]
theorem u60:Y00.underlying 162=some (.slice 5):=by kernel_rfl
theorem z5:tsz Y00 5=some 1:=by kernel_rfl
theorem ze5:Z4y Y00 5=some (.int .u8 0):=by kernel_rfl
theorem i5:(Y00.info? 5).map (·.bytes)=some 1:=by kernel_rfl
theorem Zrg(n:Nat)(h0:n≠0)(h:n<=1099511627776):Z32 Y00 162 (.int .i64 n) (.int .i64 n) []=some (.slice 0 0 n n 1,[⟨true,0,0,.cells (ZdU n [.int .u8 0]) 5⟩]):=by
 have i5:=i5
 cases hi:Y00.info? 5 with
 |none=>rw[hi]at i5;cases i5
 |some i =>
  rw[hi]at i5
  simp only[Y0t,Option.some.injEq]at i5
  simp only[Z32,ZcU,u60,z5,hi,i5,ze5]
  rw[if_pos ⟨by omega,by omega,by omega,by omega⟩,if_neg (by simp;omega)]
  simp[AV.cells,Z7U]
theorem Zll(n:Nat)(v:AV):(ZdU n [v]).length=n:=by
 induction n with
 |zero=>rfl
 |succ n ih=>simp[ZdU,ih]
theorem Zic:∀{cs vs:List AV},cs.length=vs.length->spl cs 0 vs=some vs
 |[],[],_=>rfl
 |c::cs,v::vs,h=>by simp only[spl];rw[Zic (by simpa using h)]
 |[],_::_,h=>by simp at h
 |_::_,[],h=>by simp at h
theorem Z8U:∀(l:List AV),tk l.length l=some l
 |[]=>rfl
 |c::l=>by simp only[Y05,tk];rw[Z8U l]
theorem Zry(s:List UInt8)(h0:s≠[]):Zkz Y00 162 (.slice 0 0 s.length s.length 1) (.str s) [⟨true,0,0,.cells (ZdU s.length [.int .u8 0]) 5⟩]=some (.int .i64 s.length,[⟨true,0,0,.cells (s.map λb=>.int .u8 b.toNat) 5⟩]):=by
 have hl:s.length≠0:=λe=>h0 (by simpa using e)
 simp only[Zkz,u60,z5,Z4r,if_true]
 have hm:Nat.min s.length s.length=s.length:=Nat.min_self _
 have ht:tk (s.length*1) (s.map λb=>AV.int .u8 b.toNat)=some (s.map λb=>AV.int .u8 b.toNat):=by
  have:=Z8U (s.map λb=>AV.int .u8 b.toNat)
  simpa using this
 rw[hm,if_neg hl,ht]
 have ho:(s.map λb=>AV.int .u8 b.toNat).all one=true:=by simp[List.all_eq_true,one]
 simp only[wr,Y0H,ho,if_true]
 rw[Zic (by rw[Zll];simp)]
 rfl
theorem Zgr:∀(s:List UInt8),Z3y (s.map λb=>AV.int .u8 b.toNat)=some s
 |[]=>rfl
 |b::s=>by
  have h:Nat.blt b.toNat 256=true:=by have:=b.toNat_lt;simp[Nat.blt];omega
  show (if Nat.blt b.toNat 256 then (match Z3y (s.map λb=>AV.int .u8 b.toNat) with|some r=>some (UInt8.ofNat b.toNat::r)|none=>none) else none)=_
  rw[if_pos h,Zgr s];simp
theorem Zr4(t:TypeId)(ht:Y00.underlying t=some (.pointer 5))(s:List UInt8)(h0:s≠[])(h:s.length<=1099511627776):Zkx Y00 t (.ptr 0 0) s.length [⟨true,0,0,.cells (s.map λb=>.int .u8 b.toNat) 5⟩]=some (.str s,[AObj.dead ⟨true,0,0,.cells (s.map λb=>.int .u8 b.toNat) 5⟩]):=by
 have hc:Y00.cellsOf 5=1:=by kernel_rfl
 cases s with
 |nil=>exact absurd rfl h0
 |cons b s =>
  have ht':=Z8U ((b::s).map λb=>AV.int .u8 b.toNat)
  rw[List.length_map]at ht'
  have hb:=Zgr (b::s)
  have hle:Nat.ble (s.length+1) 9223372036854775807=true:=by simp at h⊢;omega
  simp only[Y05,Zkx,Y0H,ht,hc,hle]
  simp only[Y05]at ht'
  rw[ht',if_pos (by decide)]
  generalize ((b::s).map λb=>AV.int .u8 b.toNat)=m at *
  simp only[hb]
  rfl
theorem u72:Y00.underlying 168=some (.pointer 5):=by kernel_rfl
theorem Zmq(s:List UInt8)(hs:s.length<=1099511627776):ValOK Y00 gl 139 [.str s] (.str s):=by
 by_cases h0:s=[]
 · subst h0
   refine Z0v follows Z05 Z2n Tryz.func139 rfl ?_
   repeat' ((conv=>whnf);first|refine stp ?_|with_reducible apply Z01<;>intro h)
   rfl
 · have hl:s.length≠0:=λe=>h0 (by simpa using e)
   have e1:((s.length:Int)==0)=false:=by simp;exact h0
   refine Z0v follows Z05 Z2n Tryz.func139 rfl ?_
   repeat' ((conv=>whnf);first|refine exI (Zrg s.length hl hs) ?_|refine exI (Zry s h0) ?_|refine exI (Zr4 168 u72 s h0 hs) ?_|refine stp ?_|with_reducible apply Z01<;>intro h)
   rfl
end
end Go.Proofs.YtneoiadnbikciaaGreatDoor.lex.pg

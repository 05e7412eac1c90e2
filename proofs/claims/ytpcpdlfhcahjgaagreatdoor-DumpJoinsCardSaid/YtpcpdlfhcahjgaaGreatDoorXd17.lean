/-
  Texts of this proof, one behind the other (part 17).
-/
import Derived.Test.YtpcpdlfhcahjgaaGreatDoorXd13
import Derived.Test.YtpcpdlfhcahjgaaGreatDoorXd15
set_option linter.unusedVariables false
set_option linter.unusedSimpArgs false
set_option maxRecDepth 100000
set_option maxHeartbeats 4000000
open Nat renaming le_refl → Y00,zero_le → Y06,add_zero → Y0e
open And renaming intro → Y01
open Go.Proofs.Tryz renaming prog → Y02,func5 → Y09
open Go.Abs.FgL renaming mk → Y03
open Go.Abs.BodyGe renaming pre → Y04
open Go.Abs.Wk renaming slice → Y05
open List renaming length_take → Y07,take_length → Y08,length_append → Y0a,length_eq_zero_iff → Y0b,count_le_length → Y0c,getElem?_eq_getElem → Y0d
section
namespace Go.Proofs.YtpcpdlfhcahjgaaGreatDoor.lex
open Go.Abs Go.RowKit
theorem Z6N(a b:List DGr):Z28 (a++b)=(Z28 a&&Z28 b):=by unfold Z28;rw[List.all_append]
theorem Zma{H:Z00}{n b f sh len cap:Nat}{L:List DGr}{ty:TypeId}(hH:H[b]? = some ⟨true,f,sh,.cells (Z07 grC L) ty⟩)(hl:len=L.length):frz H (n+2) (.slice b 0 len cap 4)=some (rsG L):=by
 subst hl
 exact Z8j hH (Z4I L) (Z8Y L)
theorem Z3o(T:List UInt8)(i:Nat)(h:i<T.length):(T.take (i+1)).count 10=(T.take i).count 10+if T[i]=10 then 1 else 0:=by
 rw[List.take_succ_eq_append_getElem h,List.count_append,List.count_cons,List.count_nil]
 simp
theorem ZkO(a b:List DGr)(h:¬(a.length<=8/\b.length<=8)):ValOK Y02 runLives.gl 5 [rsG a,rsG b] (.bool true):=by
 obtain⟨O,hO,p1,-⟩:=fams (P:=Y02) (gl:=runLives.gl) [fmL] rfl
 have q1:∀H,Z02 Y02 O H 6 []=some (.bool true,H):=p1 () trivial
 clear p1
 by_cases ha:a.length<=8
 · have e1:decide ((a.length:Int)>8)=false:=decide_eq_false (by omega)
   have e2:decide ((b.length:Int)>8)=true:=decide_eq_true (by omega)
   refine Z09 follows Z0a hO Y09 rfl ?_
   repeat' ((conv=>whnf);first|with_reducible refine exI (q1 _) ?_|refine stp ?_|with_reducible apply Z01<;>intro h)
   all_goals rfl
 · have e1:decide ((a.length:Int)>8)=true:=decide_eq_true (by omega)
   refine Z09 follows Z0a hO Y09 rfl ?_
   repeat' ((conv=>whnf);first|with_reducible refine exI (q1 _) ?_|refine stp ?_|with_reducible apply Z01<;>intro h)
   all_goals rfl
theorem ZkP(a b:List DGr)(hA:okGs a)(hB:okGs b)(ha:a.length<=8)(hb:b.length<=8):ValOK Y02 runLives.gl 5 [rsG a,rsG b] (.bool true):=by
 obtain⟨L,hL⟩:∃L,L=a++b:=⟨_,rfl⟩
 have hLn:L.length=a.length+b.length:=by rw[hL,Y0a]
 have hLg:okGs L:=⟨by unfold Z5A;omega,λg h=>by rw[hL]at h;rcases List.mem_append.1 h with h|h;exact hA.2 g h;exact hB.2 g h⟩
 have hcat:Z07 grC L=Z07 grC a++Z07 grC b:=by rw[hL,Z3r]
 obtain⟨O1,hO1,p1,p2,p3,p4,-⟩:=fams (P:=Y02) (gl:=runLives.gl) [fmL,fmA,fmN,{ I:=DGr,f:=14,G:=λg=>okG g,A:=λg=>[g.av,.int .i64 60],R:=λg=>.bool (Z1G g),body:=(by kernel_rfl),inj:=(λi j _ _ h=>by rw[Zdg (List.cons.inj h).1]),ok:=(λg h=>⟨rfl,Zag g h⟩) }] rfl
 obtain⟨O2,hO2,pl,k2⟩:=fz_addI (P:=Y02) (gl:=runLives.gl) (I:=List DGr) (f0:=8) (G:=λl=>(∀g∈l,okG g)/\l.length<=1048576) (A:=λl=>[rsG l]) (R:=λl=>Z4r l) (λl _=>by unfold Z4r;split<;>rfl) (λi j _ _ h=>by rw[ZbD (List.cons.inj h).1]) (λl h=>Zhj l h.1 h.2) (by kernel_rfl) hO1
 obtain⟨O,hO,pg,k3⟩:=fz_addI (P:=Y02) (gl:=runLives.gl) (I:=List DGr) (f0:=11) (G:=λl=>okGs l) (A:=λl=>[rsG l,rsG l]) (R:=λl=>.bool true) (λl _=>rfl) (λi j _ _ h=>rfl) (λl h=>Z8g l h) (by kernel_rfl) hO2
 have kq:∀f,f≠8->f≠11->∀args H,Z02 Y02 O H f args=Z02 Y02 O1 H f args:=λf h1 h2 args H=>(k3 f h2 args H).trans (k2 f h1 args H)
 have q1:∀H,Z02 Y02 O H 6 []=some (.bool true,H):=λH=>(kq _ (by decide) (by decide) _ H).trans (p1 () trivial H)
 have q2:∀s,s.length<=1048576->∀H,Z02 Y02 O H 10 [.str s]=some (Zbk s,H):=λs h H=>(kq _ (by decide) (by decide) _ H).trans (p2 s h H)
 have q3:∀s,s.length<=1048576->∀H,Z02 Y02 O H 13 [.str s]=some (.int .i64 (Z17 s:Nat),H):=λs h H=>(kq _ (by decide) (by decide) _ H).trans (p3 s h H)
 have q4:∀i (hi:i<L.length),∀H,Z02 Y02 O H 14 [.agg (grC L[i]),.int .i64 60]=some (.bool (Z1G L[i]),H):=λi hi H=>(kq _ (by decide) (by decide) _ H).trans (p4 L[i] (hLg.2 _ (List.getElem_mem hi)) H)
 have q5:∀H args l,(∀g∈l,okG g)->l.length<=16->Z1n (frz H 30) args=some [rsG l]->Z02 Y02 O H 8 args=some (Z4r l,H):=λH args l h h2 h3=>(k3 _ (by decide) args H).trans (pl l ⟨h,by omega⟩ H args h3)
 have q6:∀H args,Z1n (frz H 30) args=some [rsG L,rsG L]->Z02 Y02 O H 11 args=some (.bool true,H):=λH args h=>pg L hLg H args h
 clear p1 p2 p3 p4 pl pg k2 k3 kq
 have e1:decide ((a.length:Int)>8)=false:=decide_eq_false (by omega)
 have e2:decide ((b.length:Int)>8)=false:=decide_eq_false (by omega)
 have qa:∀H,Z02 Y02 O H 8 [.rs a.length 4 (Z07 grC a)]=some (Z4r a,H):=λH=>q5 H _ a hA.2 (by omega) rfl
 have qb:∀H,Z02 Y02 O H 8 [.rs b.length 4 (Z07 grC b)]=some (Z4r b,H):=λH=>q5 H _ b hB.2 (by omega) rfl
 have hz:∀n,frz [⟨true,0,0,.cells (Z07 grC L) 33⟩] (n+2) (.slice 0 0 L.length L.length 4)=some (rsG L):=λn=>Zma rfl rfl
 have qL:Z02 Y02 O [⟨true,0,0,.cells (Z07 grC L) 33⟩] 8 [.slice 0 0 L.length L.length 4]=some (Z4r L,[⟨true,0,0,.cells (Z07 grC L) 33⟩]):=q5 _ _ L hLg.2 (by omega) (by simp only[Z1n,hz 28])
 have qG:Z02 Y02 O [⟨true,0,0,.cells (Z07 grC L) 33⟩] 11 [rsG L,.slice 0 0 L.length L.length 4]=some (.bool true,[⟨true,0,0,.cells (Z07 grC L) 33⟩]):=q6 _ _ (by have e:frz [⟨true,0,0,.cells (Z07 grC L) 33⟩] 30 (rsG L)=some (rsG L):=rfl;simp only[Z1n,hz 28,e])
 have hat:∀i (hi:i<L.length),tk 4 ((Z07 grC L).drop (0+i*4))=some (grC L[i]):=λi hi=>by rw[Nat.zero_add];exact Z0f (f:=grC) (k:=4) (λ_=>rfl) L i hi
 have hrf:=Z6J L
 unfold rsG at qG
 clear q5 q6 hz
 rcases Nat.eq_zero_or_pos a.length with ha0|ha0<;>rcases Nat.eq_zero_or_pos b.length with hb0|hb0
 ·
  obtain rfl:a=[]:=Y0b.1 ha0
  obtain rfl:b=[]:=Y0b.1 hb0
  refine Z09 follows Z0a hO Y09 rfl ?_
  repeat' ((conv=>whnf);first|with_reducible refine exI (q1 _) ?_|refine exI (Z4l apG (xs:=[]) rfl) ?_|refine stp ?_|with_reducible apply Z01<;>intro h)
  conv=>whnf
  refine⟨Nat,(λi=>i<=L.length),(λi=>[(0,.rs ([]:List DGr).length 4 (Z07 grC ([]:List DGr))),(1,.rs ([]:List DGr).length 4 (Z07 grC ([]:List DGr))),(5,.slice 0 0 L.length L.length 4),(6,.int .i64 i)]),(λi=>[⟨true,0,0,.cells (Z07 grC L) 33⟩]),(λi=>L.length-i),⟨0,Y06 _,Y03 [0] rfl ?_ ⟨⟨rfl,rfl,rfl,rfl,Y04 (rest:=[]) (by rw[hcat];simp[Z07]) hrf⟩,trivial⟩ rfl⟩,?_⟩
  · iterate 2 refine stw ?_
    refine Y01 (Y05 rfl rfl (by rw[hLn];simp) (Y00 _) (by rw[hLn];simp) rfl) ?_
    exact wks
  intro i hi
  dsimp only
  by_cases hlt:i<L.length
  · have e3:decide ((i:Int)<(L.length:Int))=true:=decide_eq_true (by omega)
    have hx:=hat i hlt
    have qx:=q4 i hlt
    obtain⟨c,hc⟩:∃c,Z1G L[i]=c:=⟨_,rfl⟩
    rw[hc]at qx
    clear q4 hat hc
    generalize L[i]=g at *
    obtain⟨gi,gt,gf,go⟩:=g
    generalize Z07 grC L=Y at *
    cases c with
    |false =>
     repeat' ((conv=>whnf);first|(with_reducible refine ixJ i rfl ?_ ?_;focus omega)|refine exI hx ?_|refine exI (qx _) ?_|refine stp ?_|with_reducible apply Z01<;>intro h)
     all_goals rfl
    |true =>
     repeat' ((conv=>whnf);first|(with_reducible refine ixJ i rfl ?_ ?_;focus omega)|refine exI hx ?_|refine exI (qx _) ?_|refine stp ?_|with_reducible apply Z01<;>intro h)
     conv=>whnf
     refine⟨i+1,hlt,by show L.length-(i+1)<L.length-i;omega,Y03 [0] rfl ?_ ⟨⟨rfl,rfl,rfl,rfl,Y04 (rest:=[]) (by simp) hrf⟩,trivial⟩ rfl⟩
     iterate 2 refine stw ?_
     refine Y01 (Y05 rfl rfl rfl (Y00 _) (Y00 _) rfl) ?_
     exact wks
  have ei:i=L.length:=by omega
  subst ei
  have e3:decide ((L.length:Int)<(L.length:Int))=false:=decide_eq_false (by omega)
  have hLa:Z28 L=(Z28 ([]:List DGr)&&Z28 ([]:List DGr)):=by rw[hL,Z6N]
  clear q4 hat
  cases hga:Z28 ([]:List DGr) with
  |false =>
   rw[hga]at hLa
   rw[Z0H hLa]at qL
   rw[Z0H hga]at qa
   clear hcat hL
   generalize Z07 grC L=Y at *
   cases hgb:Z28 ([]:List DGr) with
   |false =>
    rw[Z0H hgb]at qb
    repeat' ((conv=>whnf);first|refine exI (qa _) ?_|refine exI (qb _) ?_|refine exI qL ?_|refine stp ?_|with_reducible apply Z01<;>intro h)
    all_goals rfl
   |true =>
    rw[Z0G hgb]at qb
    repeat' ((conv=>whnf);first|refine exI (qa _) ?_|refine exI (qb _) ?_|refine exI qL ?_|refine stp ?_|with_reducible apply Z01<;>intro h)
    all_goals rfl
  |true =>
   rw[Z0G hga]at qa
   cases hgb:Z28 ([]:List DGr) with
   |false =>
    exact absurd (hga.symm.trans hgb) (by decide)
   |true =>
    replace hLa:Z28 L=true:=hLa.trans (congr (congrArg and hga) hgb)
    rw[Z0G hLa]at qL
    rw[Z0G hgb]at qb
    have hgd:∀g∈L,okG g/\Z0e g=0:=λg h=>⟨hLg.2 g h,(Z2j L).1 hLa g h⟩
    have hZl:(Z0b L).length<=320000:=by have:=Z2p L hgd;omega
    have qZ:=q2 (Z0b L) (by omega)
    rw[Z39 hgd]at qZ
    have qN:=q3 (Z0b L) (by omega)
    have eN:Z17 (Z0b L)=(Z0b L).count 10:=by
     have:=Z2l hgd (Z0b L).length ((Z0b L).length+1) (by rw[Y07];omega)
     rw[Y08]at this
     exact this
    rw[eN]at qN
    have hZ:Z0b L=Z0b ([]:List DGr)++Z0b ([]:List DGr):=by rw[hL,Z2Y]
    have hZn:(Z0b ([]:List DGr)).length+(Z0b ([]:List DGr)).length<=320000:=by rw[<- Y0a,<- hZ];exact hZl
    unfold rsG at qZ
    clear hcat hL hgd eN q2 q3
    generalize Z0b L=Z at *
    generalize Z0b ([]:List DGr)=T at *
    generalize Z07 grC L=Y at *
    repeat' ((conv=>whnf);first|refine exI (qa _) ?_|refine exI (qb _) ?_|refine exI qL ?_|refine stp ?_|with_reducible apply Z01<;>intro h)
    conv=>whnf
    refine⟨Nat,(λi=>i<=Z.length),(λi=>[(5,.slice 0 0 L.length L.length 4),(7,.str T),(9,.str T),(11,.str Z),(12,.int .i64 0),(13,.int .i64 ((Z.take i).count 10:Nat)),(14,.int .i64 i)]),(λi=>[⟨true,0,0,.cells Y 33⟩]),(λi=>Z.length-i),⟨0,Y06 _,Y03 [0] rfl ?_ ⟨⟨rfl,rfl,rfl,rfl,Y04 (rest:=[]) (by simp) hrf⟩,trivial⟩ rfl⟩,?_⟩
    · refine Y01 (Y05 rfl rfl rfl (Y00 _) (Y00 _) rfl) ?_
      exact wks
    intro i hi
    dsimp only
    have hcl:(Z.take i).count 10<=i:=by
     have h1:=Y0c (a:=(10:UInt8)) (l:=Z.take i)
     rw[Y07]at h1;omega
    by_cases hlt:i<Z.length
    · have e1:decide ((i:Int)<(Z.length:Int))=true:=decide_eq_true (by omega)
      have hs:Z[i]? = some Z[i]:=Y0d hlt
      have hcn:=Z3o Z i hlt
      have w2:IntKind.i64.wrap (((Z.take i).count 10:Nat)+1:Int)=(((Z.take i).count 10+1:Nat):Int):=by rw[Z1i (by omega) (by omega)];omega
      by_cases h10:Z[i]=10
      · rw[if_pos h10]at hcn
        rw[h10]at hs
        repeat' ((conv=>whnf);first|(with_reducible refine ixS i hs ?_ ?_;focus omega)|(with_reducible refine exW w2 ?_)|refine stp ?_|with_reducible apply Z01<;>intro h)
        conv=>whnf
        refine⟨i+1,hlt,by show Z.length-(i+1)<Z.length-i;omega,?_⟩
        (try dsimp only)
        rw[hcn]
        refine Y03 [0] rfl ?_ ⟨⟨rfl,rfl,rfl,rfl,Y04 (rest:=[]) (by simp) hrf⟩,trivial⟩ rfl
        refine Y01 (Y05 rfl rfl rfl (Y00 _) (Y00 _) rfl) ?_
        exact wks
      · rw[if_neg h10,Y0e]at hcn
        obtain⟨c,hc⟩:∃c,Z[i]=c:=⟨_,rfl⟩
        rw[hc]at hs h10
        have hne:((c.toNat:Int)==10)=false:=by
         have:c.toNat≠10:=λe=>h10 (UInt8.toNat_inj.1 e)
         simp;omega
        repeat' ((conv=>whnf);first|(with_reducible refine ixS i hs ?_ ?_;focus omega)|(with_reducible refine exW w2 ?_)|refine stp ?_|with_reducible apply Z01<;>intro h)
        conv=>whnf
        refine⟨i+1,hlt,by show Z.length-(i+1)<Z.length-i;omega,?_⟩
        (try dsimp only)
        rw[hcn]
        refine Y03 [0] rfl ?_ ⟨⟨rfl,rfl,rfl,rfl,Y04 (rest:=[]) (by simp) hrf⟩,trivial⟩ rfl
        refine Y01 (Y05 rfl rfl rfl (Y00 _) (Y00 _) rfl) ?_
        exact wks
    have ei:i=Z.length:=by omega
    subst ei
    have e1:decide ((Z.length:Int)<(Z.length:Int))=false:=decide_eq_false (by omega)
    rw[Y08]at hcl⊢
    generalize Z.count 10=C at *
    have l1:T.length+T.length<=9223372036854775807:=by omega
    have e5:(Z==T++T)=true:=by rw[hZ];simp
    have e6:((C:Int)==(C:Int))=true:=by simp
    repeat' ((conv=>whnf);first|refine exI (qa _) ?_|refine exI (qb _) ?_|refine exI qL ?_|refine exI (qZ _) ?_|refine exI qG ?_|refine exI (qN _) ?_|(with_reducible refine Y01 l1 ?_)|refine stp ?_|with_reducible apply Z01<;>intro h)
    all_goals (show AV.bool _=AV.bool true;rw[e6])
 ·
  obtain rfl:a=[]:=Y0b.1 ha0
  refine Z09 follows Z0a hO Y09 rfl ?_
  repeat' ((conv=>whnf);first|with_reducible refine exI (q1 _) ?_|refine exI (Z1C apG (b:=0) (f:=0) (len:=0) (cs:=[]) (xs:=Z07 grC b) (n:=b.length) rfl rfl (Z1z (by simp[ABody.len])) (by simp[Z4I]) (Z5N b) (by omega) ⟨by omega,by omega⟩) ?_|refine exI (Z4l apG (xs:=[]) rfl) ?_|refine stp ?_|with_reducible apply Z01<;>intro h)
  conv=>whnf
  refine⟨Nat,(λi=>i<=L.length),(λi=>[(0,.rs ([]:List DGr).length 4 (Z07 grC ([]:List DGr))),(1,.rs b.length 4 (Z07 grC b)),(5,.slice 0 0 L.length L.length 4),(6,.int .i64 i)]),(λi=>[⟨true,0,0,.cells (Z07 grC L) 33⟩]),(λi=>L.length-i),⟨0,Y06 _,Y03 [1] rfl ?_ ⟨⟨rfl,rfl,rfl,rfl,Y04 (rest:=[]) (by rw[hcat];simp[Z07]) hrf⟩,trivial⟩ rfl⟩,?_⟩
  · iterate 2 refine stw ?_
    refine Y01 (Y05 rfl rfl (by rw[hLn];simp) (Y00 _) (by rw[hLn];simp) rfl) ?_
    exact wks
  intro i hi
  dsimp only
  by_cases hlt:i<L.length
  · have e3:decide ((i:Int)<(L.length:Int))=true:=decide_eq_true (by omega)
    have hx:=hat i hlt
    have qx:=q4 i hlt
    obtain⟨c,hc⟩:∃c,Z1G L[i]=c:=⟨_,rfl⟩
    rw[hc]at qx
    clear q4 hat hc
    generalize L[i]=g at *
    obtain⟨gi,gt,gf,go⟩:=g
    generalize Z07 grC L=Y at *
    cases c with
    |false =>
     repeat' ((conv=>whnf);first|(with_reducible refine ixJ i rfl ?_ ?_;focus omega)|refine exI hx ?_|refine exI (qx _) ?_|refine stp ?_|with_reducible apply Z01<;>intro h)
     all_goals rfl
    |true =>
     repeat' ((conv=>whnf);first|(with_reducible refine ixJ i rfl ?_ ?_;focus omega)|refine exI hx ?_|refine exI (qx _) ?_|refine stp ?_|with_reducible apply Z01<;>intro h)
     conv=>whnf
     refine⟨i+1,hlt,by show L.length-(i+1)<L.length-i;omega,Y03 [0] rfl ?_ ⟨⟨rfl,rfl,rfl,rfl,Y04 (rest:=[]) (by simp) hrf⟩,trivial⟩ rfl⟩
     iterate 2 refine stw ?_
     refine Y01 (Y05 rfl rfl rfl (Y00 _) (Y00 _) rfl) ?_
     exact wks
  have ei:i=L.length:=by omega
  subst ei
  have e3:decide ((L.length:Int)<(L.length:Int))=false:=decide_eq_false (by omega)
  have hLa:Z28 L=(Z28 ([]:List DGr)&&Z28 b):=by rw[hL,Z6N]
  clear q4 hat
  cases hga:Z28 ([]:List DGr) with
  |false =>
   rw[hga]at hLa
   rw[Z0H hLa]at qL
   rw[Z0H hga]at qa
   clear hcat hL
   generalize Z07 grC L=Y at *
   cases hgb:Z28 b with
   |false =>
    rw[Z0H hgb]at qb
    repeat' ((conv=>whnf);first|refine exI (qa _) ?_|refine exI (qb _) ?_|refine exI qL ?_|refine stp ?_|with_reducible apply Z01<;>intro h)
    all_goals rfl
   |true =>
    rw[Z0G hgb]at qb
    repeat' ((conv=>whnf);first|refine exI (qa _) ?_|refine exI (qb _) ?_|refine exI qL ?_|refine stp ?_|with_reducible apply Z01<;>intro h)
    all_goals rfl
  |true =>
   rw[Z0G hga]at qa
   cases hgb:Z28 b with
   |false =>
    replace hLa:Z28 L=false:=hLa.trans (congr (congrArg and hga) hgb)
    rw[Z0H hLa]at qL
    rw[Z0H hgb]at qb
    clear hcat hL
    generalize Z07 grC L=Y at *
    repeat' ((conv=>whnf);first|refine exI (qa _) ?_|refine exI (qb _) ?_|refine exI qL ?_|refine stp ?_|with_reducible apply Z01<;>intro h)
    all_goals rfl
   |true =>
    replace hLa:Z28 L=true:=hLa.trans (congr (congrArg and hga) hgb)
    rw[Z0G hLa]at qL
    rw[Z0G hgb]at qb
    have hgd:∀g∈L,okG g/\Z0e g=0:=λg h=>⟨hLg.2 g h,(Z2j L).1 hLa g h⟩
    have hZl:(Z0b L).length<=320000:=by have:=Z2p L hgd;omega
    have qZ:=q2 (Z0b L) (by omega)
    rw[Z39 hgd]at qZ
    have qN:=q3 (Z0b L) (by omega)
    have eN:Z17 (Z0b L)=(Z0b L).count 10:=by
     have:=Z2l hgd (Z0b L).length ((Z0b L).length+1) (by rw[Y07];omega)
     rw[Y08]at this
     exact this
    rw[eN]at qN
    have hZ:Z0b L=Z0b ([]:List DGr)++Z0b b:=by rw[hL,Z2Y]
    have hZn:(Z0b ([]:List DGr)).length+(Z0b b).length<=320000:=by rw[<- Y0a,<- hZ];exact hZl
    unfold rsG at qZ
    clear hcat hL hgd eN q2 q3
    generalize Z0b L=Z at *
    generalize Z0b ([]:List DGr)=T at *
    generalize Z0b b=U at *
    generalize Z07 grC L=Y at *
    repeat' ((conv=>whnf);first|refine exI (qa _) ?_|refine exI (qb _) ?_|refine exI qL ?_|refine stp ?_|with_reducible apply Z01<;>intro h)
    conv=>whnf
    refine⟨Nat,(λi=>i<=Z.length),(λi=>[(5,.slice 0 0 L.length L.length 4),(7,.str T),(9,.str U),(11,.str Z),(12,.int .i64 0),(13,.int .i64 ((Z.take i).count 10:Nat)),(14,.int .i64 i)]),(λi=>[⟨true,0,0,.cells Y 33⟩]),(λi=>Z.length-i),⟨0,Y06 _,Y03 [0] rfl ?_ ⟨⟨rfl,rfl,rfl,rfl,Y04 (rest:=[]) (by simp) hrf⟩,trivial⟩ rfl⟩,?_⟩
    · refine Y01 (Y05 rfl rfl rfl (Y00 _) (Y00 _) rfl) ?_
      exact wks
    intro i hi
    dsimp only
    have hcl:(Z.take i).count 10<=i:=by
     have h1:=Y0c (a:=(10:UInt8)) (l:=Z.take i)
     rw[Y07]at h1;omega
    by_cases hlt:i<Z.length
    · have e1:decide ((i:Int)<(Z.length:Int))=true:=decide_eq_true (by omega)
      have hs:Z[i]? = some Z[i]:=Y0d hlt
      have hcn:=Z3o Z i hlt
      have w2:IntKind.i64.wrap (((Z.take i).count 10:Nat)+1:Int)=(((Z.take i).count 10+1:Nat):Int):=by rw[Z1i (by omega) (by omega)];omega
      by_cases h10:Z[i]=10
      · rw[if_pos h10]at hcn
        rw[h10]at hs
        repeat' ((conv=>whnf);first|(with_reducible refine ixS i hs ?_ ?_;focus omega)|(with_reducible refine exW w2 ?_)|refine stp ?_|with_reducible apply Z01<;>intro h)
        conv=>whnf
        refine⟨i+1,hlt,by show Z.length-(i+1)<Z.length-i;omega,?_⟩
        (try dsimp only)
        rw[hcn]
        refine Y03 [0] rfl ?_ ⟨⟨rfl,rfl,rfl,rfl,Y04 (rest:=[]) (by simp) hrf⟩,trivial⟩ rfl
        refine Y01 (Y05 rfl rfl rfl (Y00 _) (Y00 _) rfl) ?_
        exact wks
      · rw[if_neg h10,Y0e]at hcn
        obtain⟨c,hc⟩:∃c,Z[i]=c:=⟨_,rfl⟩
        rw[hc]at hs h10
        have hne:((c.toNat:Int)==10)=false:=by
         have:c.toNat≠10:=λe=>h10 (UInt8.toNat_inj.1 e)
         simp;omega
        repeat' ((conv=>whnf);first|(with_reducible refine ixS i hs ?_ ?_;focus omega)|(with_reducible refine exW w2 ?_)|refine stp ?_|with_reducible apply Z01<;>intro h)
        conv=>whnf
        refine⟨i+1,hlt,by show Z.length-(i+1)<Z.length-i;omega,?_⟩
        (try dsimp only)
        rw[hcn]
        refine Y03 [0] rfl ?_ ⟨⟨rfl,rfl,rfl,rfl,Y04 (rest:=[]) (by simp) hrf⟩,trivial⟩ rfl
        refine Y01 (Y05 rfl rfl rfl (Y00 _) (Y00 _) rfl) ?_
        exact wks
    have ei:i=Z.length:=by omega
    subst ei
    have e1:decide ((Z.length:Int)<(Z.length:Int))=false:=decide_eq_false (by omega)
    rw[Y08]at hcl⊢
    generalize Z.count 10=C at *
    have l1:T.length+U.length<=9223372036854775807:=by omega
    have e5:(Z==T++U)=true:=by rw[hZ];simp
    have e6:((C:Int)==(C:Int))=true:=by simp
    repeat' ((conv=>whnf);first|refine exI (qa _) ?_|refine exI (qb _) ?_|refine exI qL ?_|refine exI (qZ _) ?_|refine exI qG ?_|refine exI (qN _) ?_|(with_reducible refine Y01 l1 ?_)|refine stp ?_|with_reducible apply Z01<;>intro h)
    all_goals (show AV.bool _=AV.bool true;rw[e6])
 ·
  obtain rfl:b=[]:=Y0b.1 hb0
  refine Z09 follows Z0a hO Y09 rfl ?_
  repeat' ((conv=>whnf);first|with_reducible refine exI (q1 _) ?_|refine exI (Z1C apG (b:=0) (f:=0) (len:=0) (cs:=[]) (xs:=Z07 grC a) (n:=a.length) rfl rfl (Z1z (by simp[ABody.len])) (by simp[Z4I]) (Z5N a) (by omega) ⟨by omega,by omega⟩) ?_|refine exI (Z4l apG (xs:=[]) rfl) ?_|refine stp ?_|with_reducible apply Z01<;>intro h)
  conv=>whnf
  refine⟨Nat,(λi=>i<=L.length),(λi=>[(0,.rs a.length 4 (Z07 grC a)),(1,.rs ([]:List DGr).length 4 (Z07 grC ([]:List DGr))),(5,.slice 0 0 L.length L.length 4),(6,.int .i64 i)]),(λi=>[⟨true,0,0,.cells (Z07 grC L) 33⟩]),(λi=>L.length-i),⟨0,Y06 _,Y03 [1] rfl ?_ ⟨⟨rfl,rfl,rfl,rfl,Y04 (rest:=[]) (by rw[hcat];simp[Z07]) hrf⟩,trivial⟩ rfl⟩,?_⟩
  · iterate 2 refine stw ?_
    refine Y01 (Y05 rfl rfl (by rw[hLn];simp) (Y00 _) (by rw[hLn];simp) rfl) ?_
    exact wks
  intro i hi
  dsimp only
  by_cases hlt:i<L.length
  · have e3:decide ((i:Int)<(L.length:Int))=true:=decide_eq_true (by omega)
    have hx:=hat i hlt
    have qx:=q4 i hlt
    obtain⟨c,hc⟩:∃c,Z1G L[i]=c:=⟨_,rfl⟩
    rw[hc]at qx
    clear q4 hat hc
    generalize L[i]=g at *
    obtain⟨gi,gt,gf,go⟩:=g
    generalize Z07 grC L=Y at *
    cases c with
    |false =>
     repeat' ((conv=>whnf);first|(with_reducible refine ixJ i rfl ?_ ?_;focus omega)|refine exI hx ?_|refine exI (qx _) ?_|refine stp ?_|with_reducible apply Z01<;>intro h)
     all_goals rfl
    |true =>
     repeat' ((conv=>whnf);first|(with_reducible refine ixJ i rfl ?_ ?_;focus omega)|refine exI hx ?_|refine exI (qx _) ?_|refine stp ?_|with_reducible apply Z01<;>intro h)
     conv=>whnf
     refine⟨i+1,hlt,by show L.length-(i+1)<L.length-i;omega,Y03 [0] rfl ?_ ⟨⟨rfl,rfl,rfl,rfl,Y04 (rest:=[]) (by simp) hrf⟩,trivial⟩ rfl⟩
     iterate 2 refine stw ?_
     refine Y01 (Y05 rfl rfl rfl (Y00 _) (Y00 _) rfl) ?_
     exact wks
  have ei:i=L.length:=by omega
  subst ei
  have e3:decide ((L.length:Int)<(L.length:Int))=false:=decide_eq_false (by omega)
  have hLa:Z28 L=(Z28 a&&Z28 ([]:List DGr)):=by rw[hL,Z6N]
  clear q4 hat
  cases hga:Z28 a with
  |false =>
   rw[hga]at hLa
   rw[Z0H hLa]at qL
   rw[Z0H hga]at qa
   clear hcat hL
   generalize Z07 grC L=Y at *
   cases hgb:Z28 ([]:List DGr) with
   |false =>
    rw[Z0H hgb]at qb
    repeat' ((conv=>whnf);first|refine exI (qa _) ?_|refine exI (qb _) ?_|refine exI qL ?_|refine stp ?_|with_reducible apply Z01<;>intro h)
    all_goals rfl
   |true =>
    rw[Z0G hgb]at qb
    repeat' ((conv=>whnf);first|refine exI (qa _) ?_|refine exI (qb _) ?_|refine exI qL ?_|refine stp ?_|with_reducible apply Z01<;>intro h)
    all_goals rfl
  |true =>
   rw[Z0G hga]at qa
   cases hgb:Z28 ([]:List DGr) with
   |false =>
    replace hLa:Z28 L=false:=hLa.trans (congr (congrArg and hga) hgb)
    rw[Z0H hLa]at qL
    rw[Z0H hgb]at qb
    clear hcat hL
    generalize Z07 grC L=Y at *
    repeat' ((conv=>whnf);first|refine exI (qa _) ?_|refine exI (qb _) ?_|refine exI qL ?_|refine stp ?_|with_reducible apply Z01<;>intro h)
    all_goals rfl
   |true =>
    replace hLa:Z28 L=true:=hLa.trans (congr (congrArg and hga) hgb)
    rw[Z0G hLa]at qL
    rw[Z0G hgb]at qb
    have hgd:∀g∈L,okG g/\Z0e g=0:=λg h=>⟨hLg.2 g h,(Z2j L).1 hLa g h⟩
    have hZl:(Z0b L).length<=320000:=by have:=Z2p L hgd;omega
    have qZ:=q2 (Z0b L) (by omega)
    rw[Z39 hgd]at qZ
    have qN:=q3 (Z0b L) (by omega)
    have eN:Z17 (Z0b L)=(Z0b L).count 10:=by
     have:=Z2l hgd (Z0b L).length ((Z0b L).length+1) (by rw[Y07];omega)
     rw[Y08]at this
     exact this
    rw[eN]at qN
    have hZ:Z0b L=Z0b a++Z0b ([]:List DGr):=by rw[hL,Z2Y]
    have hZn:(Z0b a).length+(Z0b ([]:List DGr)).length<=320000:=by rw[<- Y0a,<- hZ];exact hZl
    unfold rsG at qZ
    clear hcat hL hgd eN q2 q3
    generalize Z0b L=Z at *
    generalize Z0b a=T at *
    generalize Z0b ([]:List DGr)=U at *
    generalize Z07 grC L=Y at *
    repeat' ((conv=>whnf);first|refine exI (qa _) ?_|refine exI (qb _) ?_|refine exI qL ?_|refine stp ?_|with_reducible apply Z01<;>intro h)
    conv=>whnf
    refine⟨Nat,(λi=>i<=Z.length),(λi=>[(5,.slice 0 0 L.length L.length 4),(7,.str T),(9,.str U),(11,.str Z),(12,.int .i64 0),(13,.int .i64 ((Z.take i).count 10:Nat)),(14,.int .i64 i)]),(λi=>[⟨true,0,0,.cells Y 33⟩]),(λi=>Z.length-i),⟨0,Y06 _,Y03 [0] rfl ?_ ⟨⟨rfl,rfl,rfl,rfl,Y04 (rest:=[]) (by simp) hrf⟩,trivial⟩ rfl⟩,?_⟩
    · refine Y01 (Y05 rfl rfl rfl (Y00 _) (Y00 _) rfl) ?_
      exact wks
    intro i hi
    dsimp only
    have hcl:(Z.take i).count 10<=i:=by
     have h1:=Y0c (a:=(10:UInt8)) (l:=Z.take i)
     rw[Y07]at h1;omega
    by_cases hlt:i<Z.length
    · have e1:decide ((i:Int)<(Z.length:Int))=true:=decide_eq_true (by omega)
      have hs:Z[i]? = some Z[i]:=Y0d hlt
      have hcn:=Z3o Z i hlt
      have w2:IntKind.i64.wrap (((Z.take i).count 10:Nat)+1:Int)=(((Z.take i).count 10+1:Nat):Int):=by rw[Z1i (by omega) (by omega)];omega
      by_cases h10:Z[i]=10
      · rw[if_pos h10]at hcn
        rw[h10]at hs
        repeat' ((conv=>whnf);first|(with_reducible refine ixS i hs ?_ ?_;focus omega)|(with_reducible refine exW w2 ?_)|refine stp ?_|with_reducible apply Z01<;>intro h)
        conv=>whnf
        refine⟨i+1,hlt,by show Z.length-(i+1)<Z.length-i;omega,?_⟩
        (try dsimp only)
        rw[hcn]
        refine Y03 [0] rfl ?_ ⟨⟨rfl,rfl,rfl,rfl,Y04 (rest:=[]) (by simp) hrf⟩,trivial⟩ rfl
        refine Y01 (Y05 rfl rfl rfl (Y00 _) (Y00 _) rfl) ?_
        exact wks
      · rw[if_neg h10,Y0e]at hcn
        obtain⟨c,hc⟩:∃c,Z[i]=c:=⟨_,rfl⟩
        rw[hc]at hs h10
        have hne:((c.toNat:Int)==10)=false:=by
         have:c.toNat≠10:=λe=>h10 (UInt8.toNat_inj.1 e)
         simp;omega
        repeat' ((conv=>whnf);first|(with_reducible refine ixS i hs ?_ ?_;focus omega)|(with_reducible refine exW w2 ?_)|refine stp ?_|with_reducible apply Z01<;>intro h)
        conv=>whnf
        refine⟨i+1,hlt,by show Z.length-(i+1)<Z.length-i;omega,?_⟩
        (try dsimp only)
        rw[hcn]
        refine Y03 [0] rfl ?_ ⟨⟨rfl,rfl,rfl,rfl,Y04 (rest:=[]) (by simp) hrf⟩,trivial⟩ rfl
        refine Y01 (Y05 rfl rfl rfl (Y00 _) (Y00 _) rfl) ?_
        exact wks
    have ei:i=Z.length:=by omega
    subst ei
    have e1:decide ((Z.length:Int)<(Z.length:Int))=false:=decide_eq_false (by omega)
    rw[Y08]at hcl⊢
    generalize Z.count 10=C at *
    have l1:T.length+U.length<=9223372036854775807:=by omega
    have e5:(Z==T++U)=true:=by rw[hZ];simp
    have e6:((C:Int)==(C:Int))=true:=by simp
    repeat' ((conv=>whnf);first|refine exI (qa _) ?_|refine exI (qb _) ?_|refine exI qL ?_|refine exI (qZ _) ?_|refine exI qG ?_|refine exI (qN _) ?_|(with_reducible refine Y01 l1 ?_)|refine stp ?_|with_reducible apply Z01<;>intro h)
    all_goals (show AV.bool _=AV.bool true;rw[e6])
 ·
  refine Z09 follows Z0a hO Y09 rfl ?_
  repeat' ((conv=>whnf);first|with_reducible refine exI (q1 _) ?_|refine exI (Z1C apG (b:=0) (f:=0) (len:=0) (cs:=[]) (xs:=Z07 grC a) (n:=a.length) rfl rfl (Z1z (by simp[ABody.len])) (by simp[Z4I]) (Z5N a) (by omega) ⟨by omega,by omega⟩) ?_|refine exI (Z1C apG (b:=1) (f:=0) (len:=0+a.length) (cs:=[]++Z07 grC a) (xs:=Z07 grC b) (n:=b.length) rfl rfl (Z1z (by simp[ABody.len])) (by simp[Z4I]) (Z5N b) (by omega) ⟨by omega,by omega⟩) ?_|refine stp ?_|with_reducible apply Z01<;>intro h)
  conv=>whnf
  refine⟨Nat,(λi=>i<=L.length),(λi=>[(0,.rs a.length 4 (Z07 grC a)),(1,.rs b.length 4 (Z07 grC b)),(5,.slice 0 0 L.length L.length 4),(6,.int .i64 i)]),(λi=>[⟨true,0,0,.cells (Z07 grC L) 33⟩]),(λi=>L.length-i),⟨0,Y06 _,Y03 [2] rfl ?_ ⟨⟨rfl,rfl,rfl,rfl,Y04 (rest:=[]) (by rw[hcat];simp[Z07]) hrf⟩,trivial⟩ rfl⟩,?_⟩
  · iterate 2 refine stw ?_
    refine Y01 (Y05 rfl rfl (by rw[hLn];simp) (Y00 _) (by rw[hLn];simp) rfl) ?_
    exact wks
  intro i hi
  dsimp only
  by_cases hlt:i<L.length
  · have e3:decide ((i:Int)<(L.length:Int))=true:=decide_eq_true (by omega)
    have hx:=hat i hlt
    have qx:=q4 i hlt
    obtain⟨c,hc⟩:∃c,Z1G L[i]=c:=⟨_,rfl⟩
    rw[hc]at qx
    clear q4 hat hc
    generalize L[i]=g at *
    obtain⟨gi,gt,gf,go⟩:=g
    generalize Z07 grC L=Y at *
    cases c with
    |false =>
     repeat' ((conv=>whnf);first|(with_reducible refine ixJ i rfl ?_ ?_;focus omega)|refine exI hx ?_|refine exI (qx _) ?_|refine stp ?_|with_reducible apply Z01<;>intro h)
     all_goals rfl
    |true =>
     repeat' ((conv=>whnf);first|(with_reducible refine ixJ i rfl ?_ ?_;focus omega)|refine exI hx ?_|refine exI (qx _) ?_|refine stp ?_|with_reducible apply Z01<;>intro h)
     conv=>whnf
     refine⟨i+1,hlt,by show L.length-(i+1)<L.length-i;omega,Y03 [0] rfl ?_ ⟨⟨rfl,rfl,rfl,rfl,Y04 (rest:=[]) (by simp) hrf⟩,trivial⟩ rfl⟩
     iterate 2 refine stw ?_
     refine Y01 (Y05 rfl rfl rfl (Y00 _) (Y00 _) rfl) ?_
     exact wks
  have ei:i=L.length:=by omega
  subst ei
  have e3:decide ((L.length:Int)<(L.length:Int))=false:=decide_eq_false (by omega)
  have hLa:Z28 L=(Z28 a&&Z28 b):=by rw[hL,Z6N]
  clear q4 hat
  cases hga:Z28 a with
  |false =>
   rw[hga]at hLa
   rw[Z0H hLa]at qL
   rw[Z0H hga]at qa
   clear hcat hL
   generalize Z07 grC L=Y at *
   cases hgb:Z28 b with
   |false =>
    rw[Z0H hgb]at qb
    repeat' ((conv=>whnf);first|refine exI (qa _) ?_|refine exI (qb _) ?_|refine exI qL ?_|refine stp ?_|with_reducible apply Z01<;>intro h)
    all_goals rfl
   |true =>
    rw[Z0G hgb]at qb
    repeat' ((conv=>whnf);first|refine exI (qa _) ?_|refine exI (qb _) ?_|refine exI qL ?_|refine stp ?_|with_reducible apply Z01<;>intro h)
    all_goals rfl
  |true =>
   rw[Z0G hga]at qa
   cases hgb:Z28 b with
   |false =>
    replace hLa:Z28 L=false:=hLa.trans (congr (congrArg and hga) hgb)
    rw[Z0H hLa]at qL
    rw[Z0H hgb]at qb
    clear hcat hL
    generalize Z07 grC L=Y at *
    repeat' ((conv=>whnf);first|refine exI (qa _) ?_|refine exI (qb _) ?_|refine exI qL ?_|refine stp ?_|with_reducible apply Z01<;>intro h)
    all_goals rfl
   |true =>
    replace hLa:Z28 L=true:=hLa.trans (congr (congrArg and hga) hgb)
    rw[Z0G hLa]at qL
    rw[Z0G hgb]at qb
    have hgd:∀g∈L,okG g/\Z0e g=0:=λg h=>⟨hLg.2 g h,(Z2j L).1 hLa g h⟩
    have hZl:(Z0b L).length<=320000:=by have:=Z2p L hgd;omega
    have qZ:=q2 (Z0b L) (by omega)
    rw[Z39 hgd]at qZ
    have qN:=q3 (Z0b L) (by omega)
    have eN:Z17 (Z0b L)=(Z0b L).count 10:=by
     have:=Z2l hgd (Z0b L).length ((Z0b L).length+1) (by rw[Y07];omega)
     rw[Y08]at this
     exact this
    rw[eN]at qN
    have hZ:Z0b L=Z0b a++Z0b b:=by rw[hL,Z2Y]
    have hZn:(Z0b a).length+(Z0b b).length<=320000:=by rw[<- Y0a,<- hZ];exact hZl
    unfold rsG at qZ
    clear hcat hL hgd eN q2 q3
    generalize Z0b L=Z at *
    generalize Z0b a=T at *
    generalize Z0b b=U at *
    generalize Z07 grC L=Y at *
    repeat' ((conv=>whnf);first|refine exI (qa _) ?_|refine exI (qb _) ?_|refine exI qL ?_|refine stp ?_|with_reducible apply Z01<;>intro h)
    conv=>whnf
    refine⟨Nat,(λi=>i<=Z.length),(λi=>[(5,.slice 0 0 L.length L.length 4),(7,.str T),(9,.str U),(11,.str Z),(12,.int .i64 0),(13,.int .i64 ((Z.take i).count 10:Nat)),(14,.int .i64 i)]),(λi=>[⟨true,0,0,.cells Y 33⟩]),(λi=>Z.length-i),⟨0,Y06 _,Y03 [0] rfl ?_ ⟨⟨rfl,rfl,rfl,rfl,Y04 (rest:=[]) (by simp) hrf⟩,trivial⟩ rfl⟩,?_⟩
    · refine Y01 (Y05 rfl rfl rfl (Y00 _) (Y00 _) rfl) ?_
      exact wks
    intro i hi
    dsimp only
    have hcl:(Z.take i).count 10<=i:=by
     have h1:=Y0c (a:=(10:UInt8)) (l:=Z.take i)
     rw[Y07]at h1;omega
    by_cases hlt:i<Z.length
    · have e1:decide ((i:Int)<(Z.length:Int))=true:=decide_eq_true (by omega)
      have hs:Z[i]? = some Z[i]:=Y0d hlt
      have hcn:=Z3o Z i hlt
      have w2:IntKind.i64.wrap (((Z.take i).count 10:Nat)+1:Int)=(((Z.take i).count 10+1:Nat):Int):=by rw[Z1i (by omega) (by omega)];omega
      by_cases h10:Z[i]=10
      · rw[if_pos h10]at hcn
        rw[h10]at hs
        repeat' ((conv=>whnf);first|(with_reducible refine ixS i hs ?_ ?_;focus omega)|(with_reducible refine exW w2 ?_)|refine stp ?_|with_reducible apply Z01<;>intro h)
        conv=>whnf
        refine⟨i+1,hlt,by show Z.length-(i+1)<Z.length-i;omega,?_⟩
        (try dsimp only)
        rw[hcn]
        refine Y03 [0] rfl ?_ ⟨⟨rfl,rfl,rfl,rfl,Y04 (rest:=[]) (by simp) hrf⟩,trivial⟩ rfl
        refine Y01 (Y05 rfl rfl rfl (Y00 _) (Y00 _) rfl) ?_
        exact wks
      · rw[if_neg h10,Y0e]at hcn
        obtain⟨c,hc⟩:∃c,Z[i]=c:=⟨_,rfl⟩
        rw[hc]at hs h10
        have hne:((c.toNat:Int)==10)=false:=by
         have:c.toNat≠10:=λe=>h10 (UInt8.toNat_inj.1 e)
         simp;omega
        repeat' ((conv=>whnf);first|(with_reducible refine ixS i hs ?_ ?_;focus omega)|(with_reducible refine exW w2 ?_)|refine stp ?_|with_reducible apply Z01<;>intro h)
        conv=>whnf
        refine⟨i+1,hlt,by show Z.length-(i+1)<Z.length-i;omega,?_⟩
        (try dsimp only)
        rw[hcn]
        refine Y03 [0] rfl ?_ ⟨⟨rfl,rfl,rfl,rfl,Y04 (rest:=[]) (by simp) hrf⟩,trivial⟩ rfl
        refine Y01 (Y05 rfl rfl rfl (Y00 _) (Y00 _) rfl) ?_
        exact wks
    have ei:i=Z.length:=by omega
    subst ei
    have e1:decide ((Z.length:Int)<(Z.length:Int))=false:=decide_eq_false (by omega)
    rw[Y08]at hcl⊢
    generalize Z.count 10=C at *
    have l1:T.length+U.length<=9223372036854775807:=by omega
    have e5:(Z==T++U)=true:=by rw[hZ];simp
    have e6:((C:Int)==(C:Int))=true:=by simp
    repeat' ((conv=>whnf);first|refine exI (qa _) ?_|refine exI (qb _) ?_|refine exI qL ?_|refine exI (qZ _) ?_|refine exI qG ?_|refine exI (qN _) ?_|(with_reducible refine Y01 l1 ?_)|refine stp ?_|with_reducible apply Z01<;>intro h)
    all_goals (show AV.bool _=AV.bool true;rw[e6])
theorem dj_law(a b:List DGr)(hA:okGs a)(hB:okGs b):ValOK Y02 runLives.gl 5 [rsG a,rsG b] (.bool true):=by
 by_cases h:a.length<=8/\b.length<=8
 ·exact ZkP a b hA hB h.1 h.2
 ·exact ZkO a b h
end Go.Proofs.YtpcpdlfhcahjgaaGreatDoor.lex
namespace Go.Proofs.YtpcpdlfhcahjgaaGreatDoor.djLaw
open Go.Abs Go.RowKit
def QG(u:AV):Prop:=∃l:List lex.DGr,u=lex.rsG l/\lex.okGs l
def Qs:List (AV->Prop):=[QG,QG]
theorem opens:Z4o Y02 Tryz.f5.params.toList Qs:=by
 rw[Tryz.params5]
 exact⟨lex.oc.opGs,lex.oc.opGs,trivial⟩
theorem law(us:List AV)(h:ZiL Qs us):ValOK Y02 runLives.gl 5 us (.bool true):=by
 obtain⟨_,_,rfl,⟨a,rfl,ha⟩,h1⟩:=Z22 h
 obtain⟨_,_,rfl,⟨b,rfl,hb⟩,h2⟩:=Z22 h1
 cases Z9j h2
 exact lex.dj_law a b ha hb
theorem solid:Solid Y02:=by unfold Solid;kernel_rfl
end Go.Proofs.YtpcpdlfhcahjgaaGreatDoor.djLaw
end

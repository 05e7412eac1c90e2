/-
  Texts of this proof, one behind the other (part 5).
-/
import Derived.Test.YtneoiadnbikciaaGreatDoorXr4
set_option linter.unusedVariables false
set_option linter.unusedSimpArgs false
set_option maxRecDepth 100000
set_option maxHeartbeats 4000000
open Go.Proofs.Tryz renaming prog → Y00,func110 → Y0g,func108 → Y0l,func93 → Y0r
open Nat renaming beq → Y01,le_trans → Y06,le_refl → Y09,zero_le → Y0n,lt_succ_self → Y0p,sub_zero → Y0x
open Go.Abs.BodyGe renaming z → Y02,pre → Y07,cellsL → Y0h
open Go.Abs.Wk renaming noref → Y03,map → Y08,int → Y0c
open List renaming cons_append → Y04,nil_append → Y05,length_nil → Y0b,length_cons → Y0d,append_nil → Y0e,mem_cons → Y0o,take_zero → Y0q,take_succ_cons → Y0u,getD_eq_getElem?_getD → Y0v,drop_succ_cons → Y0w,drop_eq_getElem_cons → Y0y,getElem_cons_zero → Y0z,getElem_cons_succ → Y0A
open Go.Abs.FgLK renaming mk → Y0a
open Bool renaming eq_false_iff → Y0f,and_self → Y0j,and_eq_true → Y0k,false_eq_true → Y0m,not_true → Y0s,not_false → Y0t
open And renaming intro → Y0i
namespace Go.Proofs.YtneoiadnbikciaaGreatDoor.lex
open Go.Abs Go.RowKit
section
variable {gl:Z0k}
theorem HpGe.toZ{fs:List Nat}{H:Z00}{m:List Nat}:∀{l:List Nat}{H2:Z00}{i:Nat},HpGe H m l H2 i->HpGeZ fs H m l H2 i
 |[],[],_,_=>trivial
 |j::l,o2::H2,i,h=>by
  obtain⟨h1,h2⟩:=h
  obtain⟨o,ho,e1,e2,e3,e4,e5⟩:=Z04 h1
  refine⟨?_,HpGe.toZ h2⟩
  rw[ho]
  exact⟨e1,e2,e3,e4,Y02 e5⟩
 |[],_::_,_,h=>h.elim
 |_::_,[],_,h=>h.elim
def gL(T:List Tq)(i:Nat)(op:Int):Z00:=⟨true,0,0,.cells [.rs T.length 4 (tqC T),.int .i64 i,.int .i64 op,.slice 10 0 9 9 1] 92⟩::LV
theorem Z0c{T:List Tq}{s:Ps}(h:s.err=0):gB T s=gL T s.i s.op:=by
 unfold gB gO gL Zny
 rw[h]
 rfl
theorem Z1o {T : List Tq} {i : Nat} {op : Int} {X X' : Z00} {ms l : List Nat} {i' : Nat} {op' : Int} (hi : i = i') (ho : op = op') (h : HpGe (gL T i op ++ X) (0 :: 1 :: 2 :: 3 :: 4 :: 5 :: 6 :: 7 :: 8 :: 9 :: 10 :: ms) l X' 11) :
  HpGe (gL T i op++X) (0::1::2::3::4::5::6::7::8::9::10::ms) (0::1::2::3::4::5::6::7::8::9::10::l) (gL T i' op'++X') 0:=by
 subst hi ho
 refine⟨⟨rfl,rfl,rfl,rfl,Y0h ⟨Y03 rfl,Y0c rfl,Y0c rfl,Wk.slice rfl rfl rfl (Y09 _) (Y09 _) rfl,trivial⟩⟩,⟨rfl,rfl,rfl,rfl,rfl,eG trivial⟩,⟨rfl,rfl,rfl,rfl,rfl,eG trivial⟩,⟨rfl,rfl,rfl,rfl,rfl,eG (eG trivial)⟩,⟨rfl,rfl,rfl,rfl,rfl,eG (eG trivial)⟩,⟨rfl,rfl,rfl,rfl,rfl,eG trivial⟩,⟨rfl,rfl,rfl,rfl,rfl,eG trivial⟩,⟨rfl,rfl,rfl,rfl,rfl,eG trivial⟩,⟨rfl,rfl,rfl,rfl,rfl,eG (eG trivial)⟩,⟨rfl,rfl,rfl,rfl,rfl,eG trivial⟩,⟨rfl,rfl,rfl,rfl,Y0h ?_⟩,h⟩
 exact⟨Y08 rfl,Y08 rfl,Y08 rfl,Y08 rfl,Y08 rfl,Y08 rfl,Y08 rfl,Y08 rfl,Y08 rfl,trivial⟩
theorem Zaz {T : List Tq} {fs : List Nat} {i : Nat} {op : Int} {X X' : Z00} {ms l : List Nat} {i' : Nat} {op' : Int} (hi : i = i') (ho : op = op') (h : HpGeZ fs (gL T i op ++ X) (0 :: 1 :: 2 :: 3 :: 4 :: 5 :: 6 :: 7 :: 8 :: 9 :: 10 :: ms) l X' 11) :
  HpGeZ fs (gL T i op++X) (0::1::2::3::4::5::6::7::8::9::10::ms) (0::1::2::3::4::5::6::7::8::9::10::l) (gL T i' op'++X') 0:=by
 subst hi ho
 refine⟨⟨rfl,rfl,rfl,rfl,Y02 (Y0h ⟨Y03 rfl,Y0c rfl,Y0c rfl,Wk.slice rfl rfl rfl (Y09 _) (Y09 _) rfl,trivial⟩)⟩,⟨rfl,rfl,rfl,rfl,Y02 ⟨rfl,eG trivial⟩⟩,⟨rfl,rfl,rfl,rfl,Y02 ⟨rfl,eG trivial⟩⟩,⟨rfl,rfl,rfl,rfl,Y02 ⟨rfl,eG (eG trivial)⟩⟩,⟨rfl,rfl,rfl,rfl,Y02 ⟨rfl,eG (eG trivial)⟩⟩,⟨rfl,rfl,rfl,rfl,Y02 ⟨rfl,eG trivial⟩⟩,⟨rfl,rfl,rfl,rfl,Y02 ⟨rfl,eG trivial⟩⟩,⟨rfl,rfl,rfl,rfl,Y02 ⟨rfl,eG trivial⟩⟩,⟨rfl,rfl,rfl,rfl,Y02 ⟨rfl,eG (eG trivial)⟩⟩,⟨rfl,rfl,rfl,rfl,Y02 ⟨rfl,eG trivial⟩⟩,⟨rfl,rfl,rfl,rfl,Y02 (Y0h ?_)⟩,h⟩
 exact⟨Y08 rfl,Y08 rfl,Y08 rfl,Y08 rfl,Y08 rfl,Y08 rfl,Y08 rfl,Y08 rfl,Y08 rfl,trivial⟩
theorem Z6I{T:List Tq}{s:Ps}{i:Nat}{op:Int}{X:Z00}(he:s.err=0)(hi:i=s.i)(ho:op=s.op):HpGe (gL T i op++X) M11 M11 (gB T s) 0:=by
 rw[Z0c he,<- Y0e (gL T s.i s.op)]
 exact Z1o (X':=[]) hi ho trivial
theorem Z0G{T:List Tq}{fs:List Nat}{s:Ps}{i:Nat}{op:Int}{X:Z00}(he:s.err=0)(hi:i=s.i)(ho:op=s.op):HpGeZ fs (gL T i op++X) M11 M11 (gB T s) 0:=HpGe.toZ (Z6I he hi ho)
structure GOK (T:List Tq) (s:Ps):Prop where
 ok:PsOK T s
 er:s.err=0
 at0:s.at_=0
theorem GOK.go{T:List Tq}{s s':Ps}(h:GOK T s)(hg:PsGo T s s')(hk:Kr s s')(he:s'.err=0):GOK T s':=⟨hg.ok,he,(hk.no he).trans h.at0⟩
theorem Z4Z {Y : AV -> Prop} {O : Orc} {T : List Tq} {f : Nat} {hb : Z0m Y00 f = true} {I : Type} {G : I -> Ps -> Prop} {A : I -> List AV} {R : I -> Ps -> AV} {N : I -> Ps -> Ps} {hA : ∀ i, Z11 11 (refsL (A i) []) = true} {hinj : ∀ i j, A i = A j -> i = j} {ok : ∀ i s, G i s -> GX gl T f (A i) s (R i s) (N i s)}
  (p:(Z9r T f hb G A R N hA hinj ok).Ask Y O) (i:I) (s:Ps) (X:Z00) (hs:GOK T s) (hG:G i s) (hY:∀u,XF (N i s) u->Y u) (hX:Z08 Z0z X=true):Z06 Y00 O (gL T s.i s.op++X) f (A i)=some (R i s,gB T (N i s)++X):=by
 have:=p (i,s,X) ⟨hG,⟨hs.er,hs.at0⟩,hX⟩ hY
 rw[<- Z0c hs.er]
 exact this
theorem exG{P:Program}{O:Orc}{T:List Tq}{H X:Z00}{f:Nat}{A:List AV}{R:AV}{s':Ps}{K:AV×Z00->Prop}(h:Z06 P O H f A=some (R,gB T s'++X))(hd:s'.err≠0->K (R,gD s'++X))(hl:s'.err=0->K (R,gL T s'.i s'.op++X)):∃r,Z06 P O H f A=some r/\K r:=by
 refine⟨_,h,?_⟩
 by_cases he:s'.err=0
 ·rw[Z0c he];exact hl he
 ·rw[Z62 he];exact hd he
end
section
variable {gl:Z0k}
def gmF(T:List Tq)(s:Ps)(k:Int)(w:List UInt8):Ps:=if gis T s k w=true then Z02 s else s
theorem Zq7{T:List Tq}{s:Ps}(hs:PsOK T s)(k:Int)(w:List UInt8):GX gl T 57 [.ptr 0 0,.int .i64 k,.str w] s (.bool (gis T s k w)) (gmF T s k w):=by
 refine GX.of λh0=>?_
 have hx:=tq4 T s.i hs.lt
 rw[<- Z0t hs.lt]at hx
 have hlt:=hs.lt
 have hfew:=hs.few
 unfold gmF gis Z02
 generalize Z0r T s=t at *
 obtain⟨kd,tx,nm,ps⟩:=t
 obtain⟨i,err,at_,op⟩:=s
 simp only at h0
 subst h0
 simp only[Tq.cells]at hx hlt⊢
 have wa:IntKind.i64.wrap ((i:Int)+1)=((i+1:Nat):Int):=Z1P (by omega)
 refine Z1N isQ 3 follows Z05 (Z0g (gl:=gl)).x Tryz.func57 rfl ?_
 rw (occs:=.pos [1]) [Z0c (s:=⟨i,0,at_,op⟩) rfl]
 simp only[gL,LV]
 cases e2:kd==k<;>cases e3:tx==w
 all_goals simp only[Bool.and_false,Bool.false_and,Y0j,Y0m,if_false,if_true]
 all_goals have e4:=congrArg not e3
 all_goals simp only[Y0s,Y0t]at e4
 all_goals repeat' ((conv=>whnf);first|(refine Or.inr ?_)|refine exI hx ?_|(with_reducible refine exW wa ?_)|(with_reducible refine ixJ i rfl ?_ ?_;focus omega)|refine stp ?_|with_reducible apply Z01<;>intro h)
 all_goals (try (conv=>whnf))
 all_goals exact⟨M11,rfl,(by refine Z6I ?_ ?_ ?_<;>rfl),rfl,Wk.bool (by first|rfl|assumption)⟩
theorem Zog{T:List Tq}{s:Ps}(hs:PsOK T s)(k:Int)(w:List UInt8):GX gl T 100 [.ptr 0 0,.int .i64 k,.str w] s (.bool (gis T s k w)) s:=by
 refine GX.of λh0=>?_
 have hx:=tq4 T s.i hs.lt
 rw[<- Z0t hs.lt]at hx
 have hlt:=hs.lt
 have hfew:=hs.few
 unfold gis
 generalize Z0r T s=t at *
 obtain⟨kd,tx,nm,ps⟩:=t
 obtain⟨i,err,at_,op⟩:=s
 simp only at h0
 subst h0
 simp only[Tq.cells]at hx hlt⊢
 refine Z1N isQ 3 follows Z05 (Z0g (gl:=gl)).x Tryz.func100 rfl ?_
 rw (occs:=.pos [1]) [Z0c (s:=⟨i,0,at_,op⟩) rfl]
 simp only[gL,LV]
 cases e2:kd==k<;>cases e3:tx==w
 all_goals simp only[Bool.and_false,Bool.false_and,Y0j]
 all_goals repeat' ((conv=>whnf);first|(refine Or.inr ?_)|refine exI hx ?_|(with_reducible refine ixJ i rfl ?_ ?_;focus omega)|refine stp ?_|with_reducible apply Z01<;>intro h)
 all_goals (try (conv=>whnf))
 all_goals exact⟨M11,rfl,(by refine Z6I ?_ ?_ ?_<;>rfl),rfl,Wk.bool (by first|rfl|assumption)⟩
def Z6B(T:List Tq):FamX Y00 gl:=Z9r T 57 (by kernel_rfl) (I:=Int×List UInt8) (λ_ s=>PsOK T s) (λi=>[.ptr 0 0,.int .i64 i.1,.str i.2]) (λi s=>.bool (gis T s i.1 i.2)) (λi s=>gmF T s i.1 i.2) (λ_=>rfl) (λi j h=>by
 obtain⟨a,b⟩:=i
 obtain⟨c,d⟩:=j
 simp only[List.cons.injEq,AV.int.injEq,AV.str.injEq,true_and,and_true]at h
 rw[h.1,h.2]) (λi s h=>Zq7 h i.1 i.2)
def Zd5(T:List Tq):FamX Y00 gl:=Z9r T 100 (by kernel_rfl) (I:=Int×List UInt8) (λ_ s=>PsOK T s) (λi=>[.ptr 0 0,.int .i64 i.1,.str i.2]) (λi s=>.bool (gis T s i.1 i.2)) (λi s=>s) (λ_=>rfl) (λi j h=>by
 obtain⟨a,b⟩:=i
 obtain⟨c,d⟩:=j
 simp only[List.cons.injEq,AV.int.injEq,AV.str.injEq,true_and,and_true]at h
 rw[h.1,h.2]) (λi s h=>Zog h i.1 i.2)
def Z2Y(T:List Tq):FamX Y00 gl:=Z9r T 56 (by kernel_rfl) (I:=Int) (λe s=>PsOK T s/\e≠0) (λe=>[.ptr 0 0,.int .i64 e]) (λe s=>.tuple []) (λe s=>Z0p s e (Z0r T s).pos) (λ_=>rfl) (λi j h=>by simpa using h) (λe s h=>Zg4 h.1 h.2)
theorem Z1Y{s:Ps}{e a:Int}(he:e≠0):(Z0p s e a).err≠0:=by
 unfold Z0p;split
 ·exact he
 ·assumption
def ZlQ(f:Nat):Bool:=Y01 f 56
theorem Z6N {T : List Tq} {Y : AV -> Prop} {O : Orc} {e : Int} {i : Nat} {op : Int} {X : Z00} {K : AV × Z00 -> Prop} (p : (Z2Y (gl := gl) T).Ask Y O) {s : Ps} (hs : GOK T s) (he : e ≠ 0) (hY : ∀ u, XF (Z0p s e (Z0r T s).pos) u -> Y u) (hi : i = s.i) (ho : op = s.op) (hX : Z08 Z0z X = true) (hd : K (.tuple [], gD s ++ X)) :
  ∃r,Z06 Y00 O (gL T i op++X) 56 [.ptr 0 0,.int .i64 e]=some r/\K r:=by
 subst hi ho
 have h:=Z4Z p e s X hs ⟨hs.ok,he⟩ hY hX
 refine⟨_,h,?_⟩
 rw[Z62 (Z1Y he)]
 have e2:gD (Z0p s e (Z0r T s).pos)=gD s:=by unfold gD Z0p;split<;>rfl
 rw[e2]
 exact hd
theorem ZlV{T:List Tq}{s:Ps}(hs:PsOK T s)(ha:s.at_=0)(w:List UInt8)(hw:w≠[]):GX gl T 81 [.ptr 0 0,.str w] s (.tuple []) (sgF T s w):=by
 refine GX.of λh0=>?_
 have hg:GOK T s:=⟨hs,h0,ha⟩
 obtain⟨O,hO,⟨p1,-⟩,-⟩:=Z2w (P:=Y00) (gl:=gl) (XF (sgF T s w)) [Z2Y T] [] rfl
 have hf:=λ(hn:gis T s 4 w=false) (X:Z00) (K:AV×Z00->Prop) (hX:Z08 Z0z X=true)=>Z6N p1 (i:=s.i) (op:=s.op) (X:=X) (K:=K) (e:=5) hg (by decide) (λu hu=>by unfold sgF;rw[hn];exact hu) rfl rfl hX
 clear p1
 have hx:=tq4 T s.i hs.lt
 rw[<- Z0t hs.lt]at hx
 have hlt:=hs.lt
 have hfew:=hs.few
 have hw2:(w==[])=false:=by simpa using hw
 revert hO
 generalize hY:XF (sgF T s w)=Y
 intro hO
 clear hY
 unfold sgF gis Z02 at *
 generalize Z0r T s=t at *
 obtain⟨kd,tx,nm,ps⟩:=t
 obtain⟨i,err,at_,op⟩:=s
 simp only at h0 ha
 subst h0 ha
 simp only[Tq.cells]at hx hlt⊢
 have wa:IntKind.i64.wrap ((i:Int)+1)=((i+1:Nat):Int):=Z1P (by omega)
 by_cases hb:(kd==4&&tx==w)=true
 · simp only[Y0k,beq_iff_eq]at hb
   obtain⟨rfl,rfl⟩:=hb
   have e3:(!(tx==tx))=false:=by simp
   have e5:(!(tx==[]))=true:=by rw[hw2];rfl
   simp only[BEq.rfl,Y0j,if_true]
   refine Z1N ZlQ 3 follows Z05 hO Tryz.func81 rfl ?_
   rw (occs:=.pos [1]) [Z0c (s:=⟨i,0,0,op⟩) rfl]
   simp only[gL,LV]
   clear hf
   repeat' ((conv=>whnf);first|(refine Or.inr ?_)|refine exI hx ?_|(with_reducible refine exW wa ?_)|(with_reducible refine ixJ i rfl ?_ ?_;focus omega)|refine stp ?_|with_reducible apply Z01<;>intro h)
   all_goals (try (conv=>whnf))
   all_goals exact⟨M11,rfl,(by refine Z6I ?_ ?_ ?_<;>rfl),rfl,Y03 rfl⟩
 · have hb:=Y0f.2 hb
   have hf:=hf hb
   refine Z1N ZlQ 3 follows Z05 hO Tryz.func81 rfl ?_
   rw (occs:=.pos [1]) [Z0c (s:=⟨i,0,0,op⟩) rfl]
   simp only[gL,LV]at hf⊢
   cases e2:kd==4<;>cases e3:tx==w
   all_goals (try (rw[e2,e3]at hb;cases hb))
   all_goals have e4:=congrArg not e3
   all_goals have e5:=congrArg not hw2
   all_goals have e6:(kd != 4) = !(kd==4):=rfl
   all_goals rw[e2]at e6
   all_goals simp only[Y0s,Y0t]at e4 e5 e6
   all_goals repeat' ((conv=>whnf);first|(exact Or.inl rfl)|(refine Or.inr ?_)|refine exI hx ?_|(refine hf _ _ rfl ?_)|(with_reducible refine exW wa ?_)|(with_reducible refine ixJ i rfl ?_ ?_;focus omega)|refine stp ?_|with_reducible apply Z01<;>intro h)
end
section
variable {gl:Z0k}
theorem ZlS{T:List Tq}{s:Ps}(hs:PsOK T s)(ha:s.at_=0):GX gl T 80 [.ptr 0 0] s (.str (Z0Z T s)) (Z0e T s):=by
 refine GX.of λh0=>?_
 have hg:GOK T s:=⟨hs,h0,ha⟩
 obtain⟨O,hO,⟨p1,-⟩,-⟩:=Z2w (P:=Y00) (gl:=gl) (XF (Z0e T s)) [Z2Y T] [] rfl
 have hf:=λ(hn:Z1Q T s=false) (X:Z00) (K:AV×Z00->Prop) (hX:Z08 Z0z X=true)=>Z6N p1 (i:=s.i) (op:=s.op) (X:=X) (K:=K) (e:=5) hg (by decide) (λu hu=>by unfold Z0e;rw[hn];exact hu) rfl rfl hX
 clear p1
 have hx:=tq4 T s.i hs.lt
 rw[<- Z0t hs.lt]at hx
 have hlt:=hs.lt
 have hfew:=hs.few
 revert hO
 generalize hY:XF (Z0e T s)=Y
 intro hO
 clear hY
 unfold Z0Z Z0e Z1Q at *
 generalize Z0r T s=t at *
 obtain⟨kd,tx,nm,ps⟩:=t
 obtain⟨i,err,at_,op⟩:=s
 simp only at h0 ha
 subst h0 ha
 simp only[Tq.cells]at hx hlt⊢
 have wa:IntKind.i64.wrap ((i:Int)+1)=((i+1:Nat):Int):=Z1P (by omega)
 by_cases hb:kd=1
 · subst hb
   simp only[BEq.rfl,Y0j,if_true]
   refine Z1N ZlQ 3 follows Z05 hO Tryz.func80 rfl ?_
   rw (occs:=.pos [1]) [Z0c (s:=⟨i,0,0,op⟩) rfl]
   simp only[gL,LV]
   clear hf
   repeat' ((conv=>whnf);first|(refine Or.inr ?_)|refine exI hx ?_|(with_reducible refine exW wa ?_)|(with_reducible refine ixJ i rfl ?_ ?_;focus omega)|refine stp ?_|with_reducible apply Z01<;>intro h)
   all_goals (try (conv=>whnf))
   all_goals exact⟨M11,rfl,(by refine Z6I ?_ ?_ ?_<;>rfl),rfl,Y03 rfl⟩
 · have e1:(kd != 1)=true:=by simpa using hb
   have e2:(kd==1)=false:=by simpa using hb
   have hf:=hf (by rw[e2];rfl)
   refine Z1N ZlQ 3 follows Z05 hO Tryz.func80 rfl ?_
   rw (occs:=.pos [1]) [Z0c (s:=⟨i,0,0,op⟩) rfl]
   simp only[gL,LV]at hf⊢
   all_goals repeat' ((conv=>whnf);first|(exact Or.inl rfl)|(refine Or.inr ?_)|refine exI hx ?_|(refine hf _ _ rfl ?_)|(with_reducible refine exW wa ?_)|(with_reducible refine ixJ i rfl ?_ ?_;focus omega)|refine stp ?_|with_reducible apply Z01<;>intro h)
theorem Zjh{T:List Tq}{s:Ps}(hs:PsOK T s)(ha:s.at_=0)(w:List UInt8):GX gl T 84 [.ptr 0 0,.str w] s (.tuple []) (enF T s w):=by
 refine GX.of λh0=>?_
 have hg:GOK T s:=⟨hs,h0,ha⟩
 obtain⟨O,hO,⟨p1,-⟩,-⟩:=Z2w (P:=Y00) (gl:=gl) (XF (enF T s w)) [Z2Y T] [] rfl
 have hf:=λ(hn:gis T s 4 w=false) (X:Z00) (K:AV×Z00->Prop) (hX:Z08 Z0z X=true)=>Z6N p1 (i:=s.i) (op:=s.op) (X:=X) (K:=K) (e:=5) hg (by decide) (λu hu=>by unfold enF;rw[hn];exact hu) rfl rfl hX
 have hf2:=λ(hn:gis T s 4 w=true) (h2:s.op=200) (X:Z00) (K:AV×Z00->Prop) (hX:Z08 Z0z X=true)=>Z6N p1 (i:=s.i) (op:=s.op) (X:=X) (K:=K) (e:=3) hg (by decide) (λu hu=>by unfold enF;rw[hn,if_pos rfl,if_pos h2];exact hu) rfl rfl hX
 clear p1
 have hx:=tq4 T s.i hs.lt
 rw[<- Z0t hs.lt]at hx
 have hlt:=hs.lt
 have hfew:=hs.few
 have hlo:=hs.lo
 have hhi:=hs.hi
 revert hO
 generalize hY:XF (enF T s w)=Y
 intro hO
 clear hY
 unfold enF gis at *
 generalize Z0r T s=t at *
 obtain⟨kd,tx,nm,ps⟩:=t
 obtain⟨i,err,at_,op⟩:=s
 simp only at h0 ha
 subst h0 ha
 simp only[Tq.cells]at hx hlt hlo hhi⊢
 have wa:IntKind.i64.wrap ((i:Int)+1)=((i+1:Nat):Int):=Z1P (by omega)
 have wb:IntKind.i64.wrap (op+1)=op+1:=Z8b (by omega) (by omega)
 by_cases hb:(kd==4&&tx==w)=true
 · replace hf2:=hf2 hb
   clear hf
   simp only[Y0k,beq_iff_eq]at hb
   obtain⟨rfl,rfl⟩:=hb
   have e3:(!(tx==tx))=false:=by simp
   simp only[BEq.rfl,Y0j,if_true]
   by_cases h2:op=200
   · subst h2
     replace hf2:=hf2 rfl
     refine Z1N ZlQ 3 follows Z05 hO Tryz.func84 rfl ?_
     rw (occs:=.pos [1]) [Z0c (s:=⟨i,0,0,200⟩) rfl]
     simp only[gL,LV]at hf2⊢
     repeat' ((conv=>whnf);first|(exact Or.inl rfl)|(refine Or.inr ?_)|refine exI hx ?_|(refine hf2 _ _ rfl ?_)|(with_reducible refine exW wa ?_)|(with_reducible refine exW wb ?_)|(with_reducible refine ixJ i rfl ?_ ?_;focus omega)|refine stp ?_|with_reducible apply Z01<;>intro h)
   · clear hf2
     have e4:decide (200<=op)=false:=by simp;omega
     rw[if_neg h2]
     refine Z1N ZlQ 3 follows Z05 hO Tryz.func84 rfl ?_
     rw (occs:=.pos [1]) [Z0c (s:=⟨i,0,0,op⟩) rfl]
     simp only[gL,LV]
     repeat' ((conv=>whnf);first|(refine Or.inr ?_)|refine exI hx ?_|(with_reducible refine exW wa ?_)|(with_reducible refine exW wb ?_)|(with_reducible refine ixJ i rfl ?_ ?_;focus omega)|refine stp ?_|with_reducible apply Z01<;>intro h)
     all_goals (try (conv=>whnf))
     all_goals exact⟨M11,rfl,(by refine Z6I ?_ ?_ ?_<;>rfl),rfl,Y03 rfl⟩
 · have hb:=Y0f.2 hb
   have hf:=hf hb
   clear hf2
   refine Z1N ZlQ 3 follows Z05 hO Tryz.func84 rfl ?_
   rw (occs:=.pos [1]) [Z0c (s:=⟨i,0,0,op⟩) rfl]
   simp only[gL,LV]at hf⊢
   cases e2:kd==4<;>cases e3:tx==w
   all_goals (try (rw[e2,e3]at hb;cases hb))
   all_goals have e4:=congrArg not e3
   all_goals simp only[Y0s,Y0t]at e4
   all_goals repeat' ((conv=>whnf);first|(exact Or.inl rfl)|(refine Or.inr ?_)|refine exI hx ?_|(refine hf _ _ rfl ?_)|(with_reducible refine exW wa ?_)|(with_reducible refine ixJ i rfl ?_ ?_;focus omega)|refine stp ?_|with_reducible apply Z01<;>intro h)
theorem Zjg{T:List Tq}{s:Ps}(hs:PsOK T s)(ha:s.at_=0)(w:List UInt8)(hw:w≠[]):GX gl T 86 [.ptr 0 0,.str w] s (.tuple []) (lvF T s w):=by
 refine GX.of λh0=>?_
 have hg:GOK T s:=⟨hs,h0,ha⟩
 obtain⟨O,hO,⟨p1,-⟩,-⟩:=Z2w (P:=Y00) (gl:=gl) (XF (lvF T s w)) [Z2Y T] [] rfl
 have hf:=λ(hn:gis T s 4 w=false) (X:Z00) (K:AV×Z00->Prop) (hX:Z08 Z0z X=true)=>Z6N p1 (i:=s.i) (op:=s.op) (X:=X) (K:=K) (e:=5) hg (by decide) (λu hu=>by unfold lvF;rw[hn];exact hu) rfl rfl hX
 clear p1
 have hx:=tq4 T s.i hs.lt
 rw[<- Z0t hs.lt]at hx
 have hlt:=hs.lt
 have hfew:=hs.few
 have hlo:=hs.lo
 have hhi:=hs.hi
 have hw2:(w==[])=false:=by simpa using hw
 revert hO
 generalize hY:XF (lvF T s w)=Y
 intro hO
 clear hY
 unfold lvF gis at *
 generalize Z0r T s=t at *
 obtain⟨kd,tx,nm,ps⟩:=t
 obtain⟨i,err,at_,op⟩:=s
 simp only at h0 ha
 subst h0 ha
 simp only[Tq.cells]at hx hlt hlo hhi⊢
 have wa:IntKind.i64.wrap ((i:Int)+1)=((i+1:Nat):Int):=Z1P (by omega)
 have wb:IntKind.i64.wrap (op-1)=op-1:=Z8b (by omega) (by omega)
 by_cases hb:(kd==4&&tx==w)=true
 · simp only[Y0k,beq_iff_eq]at hb
   obtain⟨rfl,rfl⟩:=hb
   have e3:(!(tx==tx))=false:=by simp
   have e5:(!(tx==[]))=true:=by rw[hw2];rfl
   simp only[BEq.rfl,Y0j,if_true]
   refine Z1N ZlQ 4 follows Z05 hO Tryz.func86 rfl ?_
   rw (occs:=.pos [1]) [Z0c (s:=⟨i,0,0,op⟩) rfl]
   simp only[gL,LV]
   clear hf
   repeat' ((conv=>whnf);first|(refine Or.inr ?_)|refine exI hx ?_|(with_reducible refine exW wa ?_)|(with_reducible refine exW wb ?_)|(with_reducible refine ixJ i rfl ?_ ?_;focus omega)|refine stp ?_|with_reducible apply Z01<;>intro h)
   all_goals (try (conv=>whnf))
   all_goals exact⟨M11,rfl,(by refine Z6I ?_ ?_ ?_<;>rfl),rfl,Y03 rfl⟩
 · have hb:=Y0f.2 hb
   have hf:=hf hb
   refine Z1N ZlQ 4 follows Z05 hO Tryz.func86 rfl ?_
   rw (occs:=.pos [1]) [Z0c (s:=⟨i,0,0,op⟩) rfl]
   simp only[gL,LV]at hf⊢
   cases e2:kd==4<;>cases e3:tx==w
   all_goals (try (rw[e2,e3]at hb;cases hb))
   all_goals have e4:=congrArg not e3
   all_goals have e5:=congrArg not hw2
   all_goals have e6:(kd != 4) = !(kd==4):=rfl
   all_goals rw[e2]at e6
   all_goals simp only[Y0s,Y0t]at e4 e5 e6
   all_goals repeat' ((conv=>whnf);first|(exact Or.inl rfl)|(refine Or.inr ?_)|refine exI hx ?_|(refine hf _ _ rfl ?_)|(with_reducible refine exW wa ?_)|(with_reducible refine ixJ i rfl ?_ ?_;focus omega)|refine stp ?_|with_reducible apply Z01<;>intro h)
end
section
variable {gl:Z0k}
def Z6G(T:List Tq):FamX Y00 gl:=Z9r T 81 (by kernel_rfl) (I:=List UInt8) (λw s=>PsOK T s/\s.at_=0/\w≠[]) (λw=>[.ptr 0 0,.str w]) (λw s=>.tuple []) (λw s=>sgF T s w) (λ_=>rfl) (λi j h=>by simpa using h) (λw s h=>ZlV h.1 h.2.1 w h.2.2)
def Z4W(T:List Tq):FamX Y00 gl:=Z9r T 86 (by kernel_rfl) (I:=List UInt8) (λw s=>PsOK T s/\s.at_=0/\w≠[]) (λw=>[.ptr 0 0,.str w]) (λw s=>.tuple []) (λw s=>lvF T s w) (λ_=>rfl) (λi j h=>by simpa using h) (λw s h=>Zjg h.1 h.2.1 w h.2.2)
def Z39(T:List Tq):FamX Y00 gl:=Z9r T 84 (by kernel_rfl) (I:=List UInt8) (λw s=>PsOK T s/\s.at_=0) (λw=>[.ptr 0 0,.str w]) (λw s=>.tuple []) (λw s=>enF T s w) (λ_=>rfl) (λi j h=>by simpa using h) (λw s h=>Zjh h.1 h.2 w)
def Z6F(T:List Tq):FamX Y00 gl:=Z9r T 80 (by kernel_rfl) (I:=Unit) (λ_ s=>PsOK T s/\s.at_=0) (λ_=>[.ptr 0 0]) (λ_ s=>.str (Z0Z T s)) (λ_ s=>Z0e T s) (λ_=>rfl) (λ_ _ _=>rfl) (λ_ s h=>ZlS h.1 h.2)
theorem Zqn{T:List Tq}{s:Ps}{k:Int}{w:List UInt8}(h:gis T s k w=true):gmF T s k w=Z02 s:=by unfold gmF;rw[if_pos h]
theorem Zqo{T:List Tq}{s:Ps}{k:Int}{w:List UInt8}(h:gis T s k w=false):gmF T s k w=s:=by unfold gmF;rw[h];rfl
section
variable {Y:AV->Prop} {O:Orc} {T:List Tq}
theorem Znk (p : (Z6B (gl := gl) T).Ask Y O) {s : Ps} (hs : GOK T s) {k : Int} {w : List UInt8} (h : gis T s k w = true) (hY : ∀ u, XF (Z02 s) u -> Y u) {X : Z00} (hX : Z08 Z0z X = true) :
  Z06 Y00 O (gL T s.i s.op++X) 57 [.ptr 0 0,.int .i64 k,.str w]=some (.bool true,gL T (s.i+1) s.op++X):=by
 have:=Z4Z p (k,w) s X hs hs.ok (λu hu=>hY u (by simpa only[Zqn h]using hu)) hX
 simp only[Zqn h,h]at this
 rw[Z0c (s:=Z02 s) hs.er]at this
 exact this
theorem Z9V{s:Ps}(h:s.err=0)(u:AV):¬XF s u:=λk=>k.1 h
theorem ZhK (p : (Z6B (gl := gl) T).Ask Y O) {s : Ps} (hs : GOK T s) {k : Int} {w : List UInt8} (h : gis T s k w = false) {X : Z00} (hX : Z08 Z0z X = true) :
  Z06 Y00 O (gL T s.i s.op++X) 57 [.ptr 0 0,.int .i64 k,.str w]=some (.bool false,gL T s.i s.op++X):=by
 have:=Z4Z p (k,w) s X hs hs.ok (λu hu=>(Z9V hs.er u (by simpa only[Zqo h]using hu)).elim) hX
 simp only[Zqo h,h]at this
 rw[Z0c hs.er]at this
 exact this
theorem ZmC (p : (Zd5 (gl := gl) T).Ask Y O) {s : Ps} (hs : GOK T s) {k : Int} {w : List UInt8} {b : Bool} (h : gis T s k w = b) {X : Z00} (hX : Z08 Z0z X = true) :
  Z06 Y00 O (gL T s.i s.op++X) 100 [.ptr 0 0,.int .i64 k,.str w]=some (.bool b,gL T s.i s.op++X):=by
 have:=Z4Z p (k,w) s X hs hs.ok (λu hu=>(Z9V hs.er u hu).elim) hX
 rw[Z0c hs.er]at this
 subst h
 exact this
end
theorem ZpX:∀w∈ordL,kyB w=true/\kwB w=true:=by decide
theorem ZpY(i:Nat)(h:i<6):Z6U Y00 9 (ordL.map AV.str) ((i:Int).toNat*1)=some (.str (ordL[i]'h)):=by
 match i,h with
 |0,h=>rfl
 |1,h=>rfl
 |2,h=>rfl
 |3,h=>rfl
 |4,h=>rfl
 |5,h=>rfl
theorem Zs2{A B:Prop}(a:A)(b:B):A/\B:=⟨a,b⟩
def Zsp(f:Nat):Bool:=Y01 f 57 || Y01 f 56
theorem Zjd{T:List Tq}(hT:TqOK T){s:Ps}(hs:PsOK T s)(ha:s.at_=0):GX gl T 85 [.ptr 0 0] s (.int .i64 (Z0a T s ordL 1).1) (Z0a T s ordL 1).2:=by
 refine GX.of λh0=>?_
 have hg:GOK T s:=⟨hs,h0,ha⟩
 generalize hR:Z0a T s ordL 1=R
 obtain⟨Ro,Rs⟩:=R
 simp only
 obtain⟨O,hO,⟨p1,p2,-⟩,-⟩:=Z2w (P:=Y00) (gl:=gl) (XF Rs) [Z6B T,Z2Y T] [] rfl
 have hlt:=hs.lt
 have hfew:=hs.few
 refine Z1N Zsp 3 follows Z05 hO Tryz.func85 rfl ?_
 rw (occs:=.pos [1]) [Z0c h0]
 simp only[gL,LV]
 repeat' ((conv=>whnf);first|(refine Or.inr ?_)|refine stp ?_|with_reducible apply Z01<;>intro h)
 conv=>whnf
 refine⟨Nat,(λx=>x<=6/\Z0a T s (ordL.drop x) ((x:Int)+1)=(Ro,Rs)),(λx=>[(0,.ptr 0 0),(5,.agg (ordL.map AV.str)),(6,.int .i64 (x:Nat))]),(λx=>gL T s.i s.op),(λx=>6-x),⟨0,⟨Y0n _,hR⟩,?_⟩,?_⟩
 · refine Y0a M11 rfl rfl ?_ ?_ rfl
   ·exact wks
   · have h:=Z1o (T:=T) (i:=s.i) (op:=s.op) (X:=[]) (X':=[]) (ms:=[]) (l:=[]) rfl rfl trivial
     exact h
 clear hR
 rintro i ⟨hi,hf⟩
 (try dsimp only at hi hf)
 (try dsimp only)
 by_cases h6:i<6
 · have e1:decide ((i:Int)<6)=true:=by simp;omega
   have hw:=ZpY i h6
   have h7:(0:Int)<=(i:Int)/\(i:Int)<((6:Nat):Int):=by omega
   have wa:IntKind.i64.wrap ((i:Int)+1)=((i+1:Nat):Int):=Z1P (by omega)
   have wb:IntKind.i64.wrap (1+(i:Int))=(i:Int)+1:=by rw[Int.add_comm];exact Z8b (by omega) (by omega)
   have hk:=ZpX (ordL[i]'h6) (List.getElem_mem _)
   rw[Y0y (l:=ordL) h6]at hf
   simp only[Z0a]at hf
   generalize ordL[i]'h6=w at *
   have hgi:=Z4Y hT hs h0 hk.1
   obtain⟨k1,k2⟩:=Z1u (T:=T) (s:=s) hk.2
   rw[k1,k2]at hf
   rw[<- hgi]at hf
   cases hb:gis T s 2 w with
   |true =>
    rw[hb,if_pos rfl,if_pos rfl]at hf
    simp only[Prod.mk.injEq]at hf
    obtain⟨rfl,rfl⟩:=hf
    have q:=λX hX=>Znk p1 hg hb (λu hu=>hu) (X:=X) hX
    clear p1 p2
    simp only[gL,LV]at q⊢
    repeat' ((conv=>whnf);first|(refine Or.inr ?_)|refine exI (q _ rfl) ?_|(with_reducible refine Zs2 h7 ?_)|refine exI hw ?_|(with_reducible refine exW wb ?_)|(with_reducible refine ixJ i rfl ?_ ?_;focus omega)|refine stp ?_|with_reducible apply Z01<;>intro h)
    all_goals (conv=>whnf)
    all_goals exact⟨M11,rfl,(by refine Z6I ?_ ?_ ?_<;>first|rfl|exact h0),rfl,Y03 rfl⟩
   |false =>
    rw[hb,if_neg (by decide),if_neg (by decide)]at hf
    have q:=λX hX=>ZhK p1 hg hb (X:=X) hX
    clear p1 p2
    simp only[gL,LV]at q⊢
    repeat' ((conv=>whnf);first|(refine Or.inr ?_)|refine exI (q _ rfl) ?_|(with_reducible refine Zs2 h7 ?_)|refine exI hw ?_|(with_reducible refine exW wa ?_)|(with_reducible refine ixJ i rfl ?_ ?_;focus omega)|refine stp ?_|with_reducible apply Z01<;>intro h)
    conv=>whnf
    refine⟨i+1,⟨h6,hf⟩,by show 6-(i+1)<6-i;omega,?_⟩
    refine Y0a M11 rfl rfl ?_ ?_ rfl
    ·exact wks
    ·refine Z1o (l:=[]) (ms:=[]) (X':=[]) ?_ ?_ trivial<;>rfl
 · have e1:decide ((i:Int)<6)=false:=by simp;omega
   rw[List.drop_eq_nil_of_le (by show 6<=i;omega)]at hf
   simp only[Z0a,Prod.mk.injEq]at hf
   obtain⟨rfl,rfl⟩:=hf
   have q:=λX K hX=>Z6N p2 (i:=s.i) (op:=s.op) (X:=X) (K:=K) (e:=5) hg (by decide) (λu hu=>hu) rfl rfl hX
   clear p1 p2
   simp only[gL,LV]at q⊢
   repeat' ((conv=>whnf);first|(exact Or.inl rfl)|(refine Or.inr ?_)|(refine q _ _ rfl ?_)|refine stp ?_|with_reducible apply Z01<;>intro h)
end
section
variable {gl:Z0k}
inductive GCh (T:List Tq) (rec1:Ps->Ex×Ps) (l:List (List UInt8×Int)):Nat->Ex->Ps->Ex->Ps->Prop
 |stop (x:Ex) (s:Ps) (h:∀p∈l,isF T s p.1=false):GCh T rec1 l 0 x s x s
 |go (j:Nat) (x:Ex) (s:Ps) (p:List UInt8×Int) (x':Ex) (s':Ps) (hp:p∈l) (hi:isF T s p.1=true) (h:GCh T rec1 l j (.mk p.2 0 [] [x,(rec1 (Z02 s)).1]) (rec1 (Z02 s)).2 x' s'):GCh T rec1 l (j+1) x s x' s'
theorem Z1G{T:List Tq}{s:Ps}{w:List UInt8}(h:isF T s w=true):(Z0r T s).text=w:=by
 unfold isF at h
 simp only[Y0k,beq_iff_eq]at h
 exact h.2.2
theorem ZbD {T : List Tq} {rec1 : Ps -> Ex × Ps} {l : List (List UInt8 × Int)} (hk : ∀ p ∈ l, kwB p.1 = true) (hu : ∀ p ∈ l, ∀ q ∈ l, p.1 = q.1 -> p = q) : ∀ (l2 : List (List UInt8 × Int)), (∀ p ∈ l2, p ∈ l) -> ∀ (j : Nat) (x : Ex) (s : Ps) (x' : Ex) (s' : Ps) (a : Bool), GCh T rec1 l j x s x' s' ->
  ∃j',GCh T rec1 l j' (Z1s T rec1 l2 x s a).1 (Z1s T rec1 l2 x s a).2.1 x' s'/\((j'<j/\(Z1s T rec1 l2 x s a).2.2=true)\/(j'=j/\Z1s T rec1 l2 x s a=(x,s,a)/\∀p∈l2,isF T s p.1=false))
 |[],hl,j,x,s,x',s',a,h=>⟨j,h,.inr ⟨rfl,rfl,λp hp=>by cases hp⟩⟩
 |(w,o)::l2,hl,j,x,s,x',s',a,h=>by
  have hm:=hl _ (List.mem_cons_self ..)
  obtain⟨t1,t2⟩:=Z1u (T:=T) (s:=s) (hk _ hm)
  simp only at t1 t2
  have hl2:∀p∈l2,p∈l:=λp hp=>hl p (List.mem_cons_of_mem _ hp)
  cases hw:isF T s w with
  |true =>
   rw[hw]at t1 t2
   rw[if_pos rfl]at t2
   have e:Z1s T rec1 ((w,o)::l2) x s a=Z1s T rec1 l2 (.mk o 0 [] [x,(rec1 (Z02 s)).1]) (rec1 (Z02 s)).2 true:=by
    rw[Z1s,t1,t2,if_pos rfl]
   rw[e]
   cases h with
   |stop _ _ h=>have:=h _ hm;simp only at this;rw[hw]at this;cases this
   |go j _ _ p _ _ hp hi h =>
    have h1:p=(w,o):=hu p hp (w,o) hm ((Z1G hi).symm.trans (Z1G hw))
    subst h1
    obtain⟨j',h2,h3⟩:=ZbD hk hu l2 hl2 j _ _ x' s' true h
    refine⟨j',h2,.inl ?_⟩
    rcases h3 with h3|⟨h3,h4,_⟩
    ·exact⟨by omega,h3.2⟩
    ·exact⟨by omega,by rw[h4]⟩
  |false =>
   rw[hw]at t1 t2
   rw[if_neg (by decide)]at t2
   have e:Z1s T rec1 ((w,o)::l2) x s a=Z1s T rec1 l2 x s a:=by
    rw[Z1s,t1,t2,if_neg (by decide)]
   rw[e]
   obtain⟨j',h2,h3⟩:=ZbD hk hu l2 hl2 j x s x' s' a h
   refine⟨j',h2,?_⟩
   rcases h3 with h3|⟨h3,h4,h5⟩
   ·exact .inl h3
   · refine .inr ⟨h3,h4,λp hp=>?_⟩
     rcases Y0o.1 hp with rfl|hp
     ·exact hw
     ·exact h5 p hp
theorem Zg3{T:List Tq}{rec1:Ps->Ex×Ps}{l:List (List UInt8×Int)}(hk:∀p∈l,kwB p.1=true)(hu:∀p∈l,∀q∈l,p.1=q.1->p=q):∀(k j:Nat)(x:Ex)(s:Ps)(x':Ex)(s':Ps),j<k->GCh T rec1 l j x s x' s'->Z24 T rec1 l k x s=(x',s')
 |0,j,x,s,x',s',hj,h=>by omega
 |k+1,j,x,s,x',s',hj,h=>by
  obtain⟨j',h2,h3⟩:=ZbD hk hu l (λ_ h=>h) j x s x' s' false h
  unfold Z24
  rcases h3 with ⟨h3,h4⟩|⟨h3,h4,h5⟩
  · rw[if_pos h4]
    exact Zg3 hk hu k j' _ _ x' s' (by omega) h2
  · rw[h4]
    simp only[Y0m,if_false]
    rw[h4,h3]at h2
    simp only at h2
    cases h with
    |stop=>rfl
    |go j _ _ p _ _ hp hi h=>have:=h5 p hp;rw[hi]at this;cases this
theorem Zn5:∀j,j<=8->(∀p∈lvS j,kwB p.1=true/\kyB p.1=false)/\(∀p∈lvS j,∀q∈lvS j,p.1=q.1->p=q):=by
 intro j hj
 have:j=0\/j=1\/j=2\/j=3\/j=4\/j=5\/j=6\/j=7\/j=8:=by omega
 rcases this with rfl|rfl|rfl|rfl|rfl|rfl|rfl|rfl|rfl<;>decide
theorem Zn6{T:List Tq}{i0:Nat}{rec1:Ps->Ex×Ps}(hrec:∀s,PsOK T s->i0<=s.i->PsGo T s (rec1 s).2)(l:List (List UInt8×Int)):∀(k:Nat)(x:Ex)(s:Ps),PsOK T s->i0<=s.i->T.length-s.i<k->∃j x' s',j<k/\GCh T rec1 l j x s x' s'
 |0,x,s,hs,hi,hk=>by omega
 |k+1,x,s,hs,hi,hk=>by
  by_cases h:∀p∈l,isF T s p.1=false
  ·exact⟨0,x,s,by omega,.stop x s h⟩
  · obtain ⟨p, hp, h2⟩ : ∃ p, p ∈ l /\ isF T s p.1 = true := by
     refine Classical.byContradiction λhn=>h λp hp=>?_
     cases hw:isF T s p.1 with
     |false=>rfl
     |true=>exact absurd ⟨p,hp,hw⟩ hn
    have h3:=Z0b hs h2
    have h4:=hrec _ h3.ok (Y06 hi h3.on)
    have h5:s.i+1<=(rec1 (Z02 s)).2.i:=h4.on
    have h6:=hs.lt
    obtain⟨j,x',s',hj,hc⟩:=Zn6 hrec l k (.mk p.2 0 [] [x,(rec1 (Z02 s)).1]) (rec1 (Z02 s)).2 h4.ok (Y06 (Y06 hi h3.on) h4.on) (by omega)
    exact⟨j+1,x',s',by omega,.go j x s p x' s' hp h2 hc⟩
theorem ZlY{T:List Tq}{i0:Nat}{rec1:Ps->Ex×Ps}(hrec:∀s,PsOK T s->i0<=s.i->PsGo T s (rec1 s).2){n:Nat}(hn:n<=8){x:Ex}{s:Ps}(hs:PsOK T s)(hi:i0<=s.i):∃j,GCh T rec1 (lvS n) j x s (Z24 T rec1 (lvS n) (T.length+1) x s).1 (Z24 T rec1 (lvS n) (T.length+1) x s).2:=by
 obtain⟨j,x',s',hj,hc⟩:=Zn6 hrec (lvS n) (T.length+1) x s hs hi (by omega)
 obtain⟨h1,h2⟩:=Zn5 n hn
 have:=Zg3 (λp hp=>(h1 p hp).1) h2 _ _ _ _ _ _ hj hc
 rw[this]
 exact⟨j,hc⟩
def Z7j(tx:List UInt8):List (AV×AV×Nat)->Prop
 |[]=>True
 |(.str w,_,_)::l=>(tx==w)=false/\Z7j tx l
 |_::_=>False
theorem Zas{tx:List UInt8}:∀{es:List (AV×AV×Nat)}(i:Nat),Z7j tx es->Z7J .string (.str tx) es i=some none
 |[],i,_=>rfl
 |(.str w,v,n)::l,i,h=>by
  have h1:Zc6 .string (.str tx) (.str w)=some false:=by show some (tx==w)=some false;rw[h.1]
  simp only[Z7J,h1]
  exact Zas (i+1) h.2
theorem Zo6{P:Program}{t e:TypeId}{m z:AV}{tx:List UInt8}{H:Z00}{es:List (AV×AV×Nat)}(hd:Z61 P t=some (.string,e))(hz:Z4y P e=some z)(hm:Zhb H m=some es)(hs:Z7j tx es):Z2T P t m (.str tx) true H=some (.tuple [z,.bool false]):=by
 simp only[Z2T,hd,hm,Zas 0 hs,hz]
 rfl
theorem Zqb{P:Program}{t e:TypeId}{m k v:AV}{d:TypeDesc}{i:Nat}{H:Z00}{es:List (AV×AV×Nat)}(hd:Z61 P t=some (d,e))(hm:Zhb H m=some es)(hs:Z7J d k es 0=some (some (i,v))):Z2T P t m k true H=some (.tuple [v,.bool true]):=by
 simp only[Z2T,hd,hm,hs]
 rfl
theorem Zqp{T:List Tq}{rec1:Ps->Ex×Ps}{l:List (List UInt8×Int)}(hkr:∀s,Kr s (rec1 s).2){j:Nat}{x x':Ex}{s s':Ps}(h:GCh T rec1 l j x s x' s'):Kr s s':=by
 induction h with
 |stop=>exact Kr.rfl'
 |go j x s p x' s' hp hi h ih=>exact (Z0q s).trans ((hkr _).trans ih)
theorem Zq8{n:Nat}(hn:n<=8){p:List UInt8×Int}(hp:p∈lvS n):(n=0/\p=([124,124],5))\/(n=1/\p=([38,38],6))\/(n=2/\p=([61,61],7))\/(n=2/\p=([33,61],8))\/(n=3/\p=([60],9))\/(n=3/\p=([60,61],10))\/(n=4/\p=([124],11))\/(n=5/\p=([94],12))\/(n=6/\p=([38],13))\/(n=7/\p=([43],14))\/(n=7/\p=([45],15))\/(n=8/\p=([42],16)):=by
 have:n=0\/n=1\/n=2\/n=3\/n=4\/n=5\/n=6\/n=7\/n=8:=by omega
 rcases this with rfl|rfl|rfl|rfl|rfl|rfl|rfl|rfl|rfl
 all_goals (simp only[lvS,Y0o,List.not_mem_nil,or_false]at hp)
 all_goals (first|(rcases hp with rfl|rfl)|subst hp)
 all_goals simp
theorem ZlG{n:Nat}(hn:n<=8){tx:List UInt8}(h:∀p∈lvS n,(tx==p.1)=false):(n=0/\Z7j tx [(.str [124,124],.int .i64 5,0)])\/(n=1/\Z7j tx [(.str [38,38],.int .i64 6,0)])\/(n=2/\Z7j tx [(.str [61,61],.int .i64 7,0),(.str [33,61],.int .i64 8,1)])\/(n=3/\Z7j tx [(.str [60],.int .i64 9,0),(.str [60,61],.int .i64 10,1)])\/(n=4/\Z7j tx [(.str [124],.int .i64 11,0)])\/(n=5/\Z7j tx [(.str [94],.int .i64 12,0)])\/(n=6/\Z7j tx [(.str [38],.int .i64 13,0)])\/(n=7/\Z7j tx [(.str [43],.int .i64 14,0),(.str [45],.int .i64 15,1)])\/(n=8/\Z7j tx [(.str [42],.int .i64 16,0)]):=by
 have:n=0\/n=1\/n=2\/n=3\/n=4\/n=5\/n=6\/n=7\/n=8:=by omega
 rcases this with rfl|rfl|rfl|rfl|rfl|rfl|rfl|rfl|rfl
 all_goals (simp only[lvS,List.forall_mem_cons]at h)
 all_goals simp[Z7j,h]
structure Jg where
 j:Nat
 x:Ex
 s:Ps
def Zjf(T:List Tq)(n:Nat)(rec1:Ps->Ex×Ps)(G:Ps->Prop)(ok:∀s,G s->GX gl T 77 [.ptr 0 0,.int .i64 (n:Nat)] s (.agg (rec1 s).1.cells) (rec1 s).2):FamX Y00 gl:=Z9r T 77 (by kernel_rfl) (I:=Unit) (λ_ s=>G s) (λ_=>[.ptr 0 0,.int .i64 (n:Nat)]) (λ_ s=>.agg (rec1 s).1.cells) (λ_ s=>(rec1 s).2) (λ_=>rfl) (λ_ _ _=>rfl) (λ_ s h=>ok s h)
def Zrn(f:Nat):Bool:=Y01 f 77 || Y01 f 108
theorem ZeC {T : List Tq} (hT : TqOK T) {n : Nat} (hn : n <= 8) {rec1 : Ps -> Ex × Ps} {s0 : Ps} (hs0 : PsOK T s0) (ha0 : s0.at_ = 0) (hrec : ∀ s, PsOK T s -> s0.i <= s.i -> PsGo T s (rec1 s).2) (hkr : ∀ s, Kr s (rec1 s).2)
  (hq:∀s,GOK T s->s0.i<=s.i->GX gl T 77 [.ptr 0 0,.int .i64 ((n+1:Nat):Int)] s (.agg (rec1 s).1.cells) (rec1 s).2) :
  GX gl T 77 [.ptr 0 0,.int .i64 (n:Nat)] s0 (.agg (Z24 T rec1 (lvS n) (T.length+1) (rec1 s0).1 (rec1 s0).2).1.cells) (Z24 T rec1 (lvS n) (T.length+1) (rec1 s0).1 (rec1 s0).2).2:=by
 refine GX.of λh0=>?_
 have hg0:GOK T s0:=⟨hs0,h0,ha0⟩
 have h00:=hrec s0 hs0 (Y09 _)
 have hkrL:Kr (rec1 s0).2 (Z24 T rec1 (lvS n) (T.length+1) (rec1 s0).1 (rec1 s0).2).2:=Zev hkr _ _ _ _
 obtain⟨j0,hch⟩:=ZlY hrec hn (x:=(rec1 s0).1) h00.ok h00.on
 generalize Z24 T rec1 (lvS n) (T.length+1) (rec1 s0).1 (rec1 s0).2=R at *
 obtain⟨⟨Ro,Rn,Rt,Rk⟩,Rs⟩:=R
 simp only at hch hkrL⊢
 obtain⟨O,hO,⟨p1,-⟩,-⟩:=Z2w (P:=Y00) (gl:=gl) (XF Rs) [Zjf T (n+1) rec1 (λs=>GOK T s/\s0.i<=s.i) (λs h=>hq s h.1 h.2)] [] rfl
 have q:=λs X (h:GOK T s) (hi:s0.i<=s.i) (hk:Kr (rec1 s).2 Rs) (hX:Z08 Z0z X=true)=>Z4Z p1 () s X h ⟨h,hi⟩ hk.x hX
 clear p1
 have hr0:=λX hX=>q s0 X hg0 (Y09 _) hkrL hX
 have hgo0:=λhe=>hg0.go h00 (hkr s0) he
 have hi0:=h00.on
 have wn:IntKind.i64.wrap ((n:Int)+1)=((n+1:Nat):Int):=Z1P (by omega)
 have en:((n:Int)==9)=false:=by simp;omega
 generalize rec1 s0=r0 at *
 obtain⟨⟨xo,xn,xt,xk⟩,s1⟩:=r0
 refine Z0w Zrn 3 follows Z05 hO Tryz.func77 rfl ?_
 rw (occs:=.pos [1]) [Z0c h0]
 simp only[gL,LV,Ex.cells]at hr0⊢
 repeat' ((conv=>whnf);first|(exact Or.inl rfl)|(refine Or.inr ?_)|(with_reducible refine exW wn ?_)|(refine exG (hr0 _ rfl) (λhd=>?_) (λe1=>?_))|refine stp ?_|with_reducible apply Z01<;>intro h)
 conv=>whnf
 have hg1:=hgo0 e1
 refine⟨Jg,(λy=>GOK T y.s/\s0.i<=y.s.i/\GCh T rec1 (lvS n) y.j y.x y.s (.mk Ro Rn Rt Rk) Rs),(λy=>[(0,.ptr 0 0),(1,.int .i64 (n:Nat)),(4,.ptr 11 0),(5,.ptr 12 0)]),
  (λy=>gL T y.s.i y.s.op++[⟨true,11,0,.cells zE 47⟩,⟨true,12,0,.cells y.x.cells 47⟩]),(λy=>y.j),⟨⟨j0,.mk xo xn xt xk,s1⟩,⟨hg1,hi0,hch⟩,?_⟩,?_⟩
 · refine Y0a [0,1,2,3,4,5,6,7,8,9,10,11,12] rfl rfl ?_ ?_ rfl
   ·exact wks
   ·refine Z1o (l:=[11,12]) ?_ ?_ ⟨hbp,hbp,trivial⟩<;>rfl
 clear hr0 hgo0 hi0 hg1 hch hkrL h00 e1
 rintro⟨j,⟨xo,xn,xt,xk⟩,s⟩ ⟨hs,hi,hch⟩
 dsimp only at hs hi hch
 (try dsimp only)
 have hx:=tq4 T s.i hs.ok.lt
 rw[<- Z0t hs.ok.lt]at hx
 have hlt:=hs.ok.lt
 have hfew:=hs.ok.few
 have wa:IntKind.i64.wrap ((s.i:Int)+1)=((s.i+1:Nat):Int):=Z1P (by omega)
 cases hch with
 |stop _ _ h =>
  clear q
  have hm:(Z0r T Rs).kind=4->∀p∈lvS n,((Z0r T Rs).text==p.1)=false:=λhk p hp=>by
   have h1:=h p hp
   unfold isF at h1
   rw[hs.er,hk]at h1
   simpa using h1
  clear h
  have her:=hs.er
  generalize Z0r T Rs=t at *
  obtain⟨kd,tx,nm,ps⟩:=t
  obtain⟨i,err,at_,op⟩:=Rs
  simp only[Tq.cells,Ex.cells,zE]at hx hm hlt wa her⊢
  by_cases hk:kd=4
  · subst hk
    have hm:=hm rfl
    rcases ZlG hn hm with ⟨rfl,hms⟩|⟨rfl,hms⟩|⟨rfl,hms⟩|⟨rfl,hms⟩|⟨rfl,hms⟩|⟨rfl,hms⟩|⟨rfl,hms⟩|⟨rfl,hms⟩|⟨rfl,hms⟩
    all_goals simp only[gL,LV,Y04,Y05]
    all_goals repeat' ((conv=>whnf);first|(refine Or.inr ?_)|refine exI hx ?_|refine exI (Zo6 rfl rfl rfl hms) ?_|(with_reducible refine ixJ i rfl ?_ ?_;focus omega)|refine stp ?_|with_reducible apply Z01<;>intro h)
    all_goals (try (conv=>whnf))
    all_goals exact⟨[],M11,rfl,(by refine Z0G ?_ ?_ ?_<;>first|rfl|exact her),rfl,rfl,.inl (Y03 rfl)⟩
  · have e4:(kd==4)=false:=by simpa using hk
    simp only[gL,LV,Y04,Y05]
    repeat' ((conv=>whnf);first|(refine Or.inr ?_)|refine exI hx ?_|(with_reducible refine ixJ i rfl ?_ ?_;focus omega)|refine stp ?_|with_reducible apply Z01<;>intro h)
    all_goals (try (conv=>whnf))
    all_goals exact⟨[],M11,rfl,(by refine Z0G ?_ ?_ ?_<;>first|rfl|exact her),rfl,rfl,.inl (Y03 rfl)⟩
 |go j _ _ p _ _ hp hb hc =>
  have hst:=Z0b hs.ok hb
  have hgs:GOK T (Z02 s):=hs.go hst (Z0q s) hs.er
  have hrs:=hrec _ hst.ok (Y06 hi hst.on)
  have hq1:=λX hX=>q (Z02 s) X hgs (Y06 hi hst.on) (Zqp hkr hc) hX
  have hgo:=λhe=>hgs.go hrs (hkr _) he
  have hon:=Y06 (Y06 hi hst.on) hrs.on
  have hk4:(Z0r T s).kind=4:=Z6H ((Z4X hT hs.ok hs.er ((Zn5 n hn).1 p hp).2).trans hb)
  have htx:=Z1G hb
  clear hq q hst hrs hkr hrec hgs
  generalize Z0r T s=t at *
  obtain⟨kd,tx,nm,ps⟩:=t
  simp only at hk4 htx
  subst hk4 htx
  obtain⟨i,err,at_,op⟩:=s
  simp only[Z02]at hq1 hgo hon hc
  generalize rec1 ⟨i+1,err,at_,op⟩=r1 at *
  obtain⟨⟨yo,yn,yt,yk⟩,s1⟩:=r1
  simp only[Tq.cells,Ex.cells,zE,gL,LV,Y04,Y05]at hx hq1 hgo hon hlt wa⊢
  rcases Zq8 hn hp with ⟨rfl,rfl⟩|⟨rfl,rfl⟩|⟨rfl,rfl⟩|⟨rfl,rfl⟩|⟨rfl,rfl⟩|⟨rfl,rfl⟩|⟨rfl,rfl⟩|⟨rfl,rfl⟩|⟨rfl,rfl⟩|⟨rfl,rfl⟩|⟨rfl,rfl⟩|⟨rfl,rfl⟩
  all_goals repeat' ((conv=>whnf);first|(exact Or.inl rfl)|(refine Or.inr ?_)|refine exI hx ?_|refine exI (Zqb rfl rfl rfl) ?_|(refine exG (hq1 _ rfl) (λhd=>?_) (λe1=>?_))|(with_reducible refine exW wa ?_)|(with_reducible refine exW wn ?_)|(with_reducible refine ixJ i rfl ?_ ?_;focus omega)|refine stp ?_|with_reducible apply Z01<;>intro h)
  all_goals (conv=>whnf)
  all_goals refine⟨⟨j,.mk _ 0 [] [.mk xo xn xt xk,.mk yo yn yt yk],s1⟩,⟨hgo e1,hon,hc⟩,Y0p _,?_⟩
  all_goals refine FgLK.mkZ [15] [0,1,2,3,4,5,6,7,8,9,10,11,12] rfl rfl ?_ (by refine Zaz (l:=[11,12]) ?_ ?_ ⟨⟨rfl,rfl,rfl,rfl,Y02 (Y07 (rest:=[]) rfl rfl)⟩,⟨rfl,rfl,rfl,rfl,BodyGeZ.app (cs:=[]) rfl ⟨.inl (Y0c rfl),.inl (Y0c rfl),.inl (Y03 rfl),.inr rfl,trivial⟩⟩,trivial⟩<;>rfl) rfl rfl
  all_goals exact⟨.inl (Wk.ptr rfl rfl),.inl (Y0c rfl),.inl (Wk.ptr rfl rfl),.inl (Wk.ptr rfl rfl),trivial⟩
end
section
variable {gl:Z0k}
section
variable {Y:AV->Prop} {O:Orc} {T:List Tq}
theorem ZqO {f : Nat} {hb : Z0m Y00 f = true} {I : Type} {G : I -> Ps -> Prop} {A : I -> List AV} {R : I -> Ps -> AV} {N : I -> Ps -> Ps} {hA : ∀ i, Z11 11 (refsL (A i) []) = true} {hinj : ∀ i j, A i = A j -> i = j} {ok : ∀ i s, G i s -> GX gl T f (A i) s (R i s) (N i s)}
  (p:(Z9r T f hb G A R N hA hinj ok).Ask Y O) (i:I) (s:Ps) (X:Z00) (hs:GOK T s) (hG:G i s) (hY:∀u,XF (N i s) u->Y u) (hX:Z08 Z0z X=true) (he:(N i s).err≠0):Z06 Y00 O (gL T s.i s.op++X) f (A i)=some (R i s,gD (N i s)++X):=by
 have h:=Z4Z p i s X hs hG hY hX
 rwa [Z62 he]at h
theorem Zr1 {f : Nat} {hb : Z0m Y00 f = true} {I : Type} {G : I -> Ps -> Prop} {A : I -> List AV} {R : I -> Ps -> AV} {N : I -> Ps -> Ps} {hA : ∀ i, Z11 11 (refsL (A i) []) = true} {hinj : ∀ i j, A i = A j -> i = j} {ok : ∀ i s, G i s -> GX gl T f (A i) s (R i s) (N i s)}
  (p:(Z9r T f hb G A R N hA hinj ok).Ask Y O) (i:I) (s:Ps) (X:Z00) (hs:GOK T s) (hG:G i s) (hX:Z08 Z0z X=true) {s':Ps} (hN:N i s=s') (he:s'.err=0):Z06 Y00 O (gL T s.i s.op++X) f (A i)=some (R i s,gL T s'.i s'.op++X):=by
 subst hN
 have h:=Z4Z p i s X hs hG (λu hu=>(Z9V he u hu).elim) hX
 rwa [Z0c he]at h
end
theorem Zjp{s:Ps}{e a:Int}:gD (Z0p s e a)=gD s:=by unfold gD Z0p;split<;>rfl
def Zn1(T:List Tq)(F:Ps->Ex×Ps)(G:Ps->Prop)(ok:∀s,G s->GX gl T 108 [.ptr 0 0] s (.agg (F s).1.cells) (F s).2):FamX Y00 gl:=Z9r T 108 (by kernel_rfl) (I:=Unit) (λ_ s=>G s) (λ_=>[.ptr 0 0]) (λ_ s=>.agg (F s).1.cells) (λ_ s=>(F s).2) (λ_=>rfl) (λ_ _ _=>rfl) (λ_ s h=>ok s h)
def Zrj(f:Nat):Bool:=Y01 f 77 || (Y01 f 108 || (Y01 f 100 || (Y01 f 84 || (Y01 f 86 || (Y01 f 80 || (Y01 f 119 || Y01 f 89))))))
theorem Zd6 {T : List Tq} {s : Ps} {d : Nat} (hT : TqOK T) (hg : GOK T s) (op : Int) (w : List UInt8) (hw : (w = [45] /\ op = 3) \/ (w = [33] /\ op = 4)) (hb : gis T s 4 w = true)
  (hun:s.op≠200->GOK T (upF s)/\PsGo T (upF s) (unF T d (upF s)).2/\GX gl T 108 [.ptr 0 0] (upF s) (.agg (unF T d (upF s)).1.cells) (unF T d (upF s)).2) :
  GX gl T 119 [.ptr 0 0,.int .i64 op] s (.agg (unF T (d+1) s).1.cells) (unF T (d+1) s).2:=by
 refine GX.of λh0=>?_
 have hw1:kyB w=false:=by rcases hw with ⟨rfl,_⟩|⟨rfl,_⟩<;>rfl
 have hF:isF T s w=true:=(Z4X hT hg.ok hg.er hw1).symm.trans hb
 have htx:=Z1G hF
 have hk4:=Z6H hb
 have hne:¬(isF T s [45]=false/\isF T s [33]=false):=by
  rcases hw with ⟨rfl,_⟩|⟨rfl,_⟩
  ·rw[hF];exact λh=>by cases h.1
  ·rw[hF];exact λh=>by cases h.2
 have hop:(if isF T s [33]=true then (4:Int) else 3)=op:=by
  rcases hw with ⟨rfl,rfl⟩|⟨rfl,rfl⟩
  · have : isF T s [33] = false := by
     cases h:isF T s [33] with
     |false=>rfl
     |true=>have:=(Z1G h).symm.trans htx;cases this
    rw[this];rfl
  ·rw[hF];rfl
 have e0:unF T (d+1) s=if s.op=200 then (ex0,Z0p s 3 (Z0r T s).pos) else (.mk op 0 [] [(unF T d (upF s)).1],{ (unF T d (upF s)).2 with op:=(unF T d (upF s)).2.op-1 }):=by
  have e1:unF T (d+1) s=if isF T s [45]=false/\isF T s [33]=false then Z1m T (Z3A T (unF T d) 9) s else if s.op=200 then (ex0,Z0p s 3 (Z0r T s).pos) else (.mk (if isF T s [33]=true then 4 else 3) 0 [] [(unF T d (upF s)).1],{ (unF T d (upF s)).2 with op:=(unF T d (upF s)).2.op-1 }):=rfl
  rw[e1,if_neg hne,hop]
 rw[e0]
 clear e0 hop hne
 have hx:=tq4 T s.i hg.ok.lt
 rw[<- Z0t hg.ok.lt]at hx
 have hlt:=hg.ok.lt
 have hfew:=hg.ok.few
 by_cases h5:s.op=200
 · rw[if_pos h5]
   clear hun
   obtain⟨O,hO,⟨p2,-⟩,-⟩:=Z2w (P:=Y00) (gl:=gl) (XF (Z0p s 3 (Z0r T s).pos)) [Z39 T] [] rfl
   have hN:enF T s w=Z0p s 3 (Z0r T s).pos:=by unfold enF;rw[hb,if_pos rfl,if_pos h5]
   have qe:∀X,Z08 Z0z X=true->Z06 Y00 O (gL T s.i s.op++X) 84 [.ptr 0 0,.str w]=some (.tuple [],gD s++X):=λX hX=>by
    have h:=ZqO p2 w s X hg ⟨hg.ok,hg.at0⟩ (λu hu=>by simpa only[hN]using hu) hX (by simp only[hN];exact Z1Y (by decide))
    simpa only[hN,Zjp]using h
   clear p2 hN
   generalize Z0r T s=t at *
   obtain⟨kd,tx,nm,ps⟩:=t
   simp only at hk4 htx
   subst hk4 htx
   refine Z0w Zrj 3 follows Z05 hO Tryz.func119 rfl ?_
   rw (occs:=.pos [1]) [Z0c h0]
   simp only[Tq.cells]at hx
   simp only[gL,LV,gD,Y04,Y05]at qe⊢
   all_goals repeat' ((conv=>whnf);first|(exact Or.inl rfl)|(refine Or.inr ?_)|refine exI hx ?_|refine exI (qe _ rfl) ?_|(with_reducible refine ixJ s.i rfl ?_ ?_;focus omega)|refine stp ?_|with_reducible apply Z01<;>intro h)
 · rw[if_neg h5]
   obtain⟨hup,hgo,hq⟩:=hun h5
   have hkr:=Ze2 T d (upF s)
   generalize hR:({ (unF T d (upF s)).2 with op:=(unF T d (upF s)).2.op-1 }:Ps)=R
   obtain⟨O,hO,⟨p2,p3,-⟩,-⟩:=Z2w (P:=Y00) (gl:=gl) (XF R) [Z39 T,Zn1 T (λt=>unF T d t) (λt=>t=upF s) (λt h=>by rw[h];exact hq)] [] rfl
   have hN:enF T s w=upF s:=by unfold enF;rw[hb,if_pos rfl,if_neg h5];rfl
   have qe:=λX hX=>Zr1 p2 w s X hg ⟨hg.ok,hg.at0⟩ hX hN hg.er
   have qu:∀X,Z08 Z0z X=true->Z06 Y00 O (gL T (upF s).i (upF s).op++X) 108 [.ptr 0 0]=some (.agg (unF T d (upF s)).1.cells,gB T (unF T d (upF s)).2++X):=λX hX=>Z4Z p3 () (upF s) X hup rfl (λu hu=>by subst hR;exact hu) hX
   have her:=λhe=>(hup.go hgo hkr he).ok
   clear p2 p3 hN hq hgo hkr hup hun
   generalize unF T d (upF s)=r at *
   obtain⟨⟨yo,yn,yt,yk⟩,⟨i2,er2,a2,op2⟩⟩:=r
   generalize Z0r T s=t at *
   obtain⟨kd,tx,nm,ps⟩:=t
   simp only at hk4 htx
   subst hk4 htx
   simp only at hR her
   have wc:er2=0->IntKind.i64.wrap (op2-1)=op2-1:=λhe=>by
    have h1:=(her he).lo
    have h2:=(her he).hi
    have h3:=(her he).lt
    simp only at h1 h2 h3
    exact Z8b (by omega) (by omega)
   refine Z0w Zrj 3 follows Z05 hO Tryz.func119 rfl ?_
   rw (occs:=.pos [1]) [Z0c h0]
   simp only[Tq.cells]at hx
   simp only[gL,LV,Y04,Y05,upF,Ex.cells]at qe qu⊢
   all_goals repeat' ((conv=>whnf);first|(exact Or.inl rfl)|(refine Or.inr ?_)|refine exI hx ?_|refine exI (qe _ rfl) ?_|(refine exG (qu _ rfl) (λhd=>?_) (λe1=>?_))|(with_reducible refine ixJ s.i rfl ?_ ?_;focus omega)|(with_reducible refine exW (wc e1) ?_)|refine stp ?_|with_reducible apply Z01<;>intro h)
   all_goals (conv=>whnf)
   all_goals (subst hR;exact⟨[13],M11,rfl,(by refine Z0G ?_ ?_ ?_<;>first|rfl|exact e1),rfl,rfl,.inr rfl⟩)
theorem Zjl {T : List Tq} {s : Ps} (hT : TqOK T) (hg : GOK T s) {ex : Ps -> Ex × Ps} (hkr : ∀ s, Kr s (ex s).2) (hex : GOK T (Z03 T s [40]) -> PsGo T (Z03 T s [40]) (ex (Z03 T s [40])).2 /\ GX gl T 77 [.ptr 0 0, .int .i64 0] (Z03 T s [40]) (.agg (ex (Z03 T s [40])).1.cells) (ex (Z03 T s [40])).2) :
  GX gl T 89 [.ptr 0 0] s (.agg (ex (Z03 T s [40])).1.cells) (Z03 T (ex (Z03 T s [40])).2 [41]):=by
 refine GX.of λh0=>?_
 obtain⟨O,hO,⟨p1,p2,p3,-⟩,-⟩:=Z2w (P:=Y00) (gl:=gl) (XF (Z03 T (ex (Z03 T s [40])).2 [41])) [Z39 T,Zjf T 0 ex (λt=>t=Z03 T s [40]/\GOK T t) (λt h=>by rw[h.1];exact (hex (h.1 ▸ h.2)).2),Z4W T] [] rfl
 have n1:enF T s [40]=Z03 T s [40]:=Zgh hT hg.ok hg.er rfl rfl
 have k1:=Z0s T s [40]
 have k2:=hkr (Z03 T s [40])
 have k3:=Z0s T (ex (Z03 T s [40])).2 [41]
 have g1:=λhe=>hg.go (Z0F hg.ok [40]) k1 he
 have q1:∀X,Z08 Z0z X=true->Z06 Y00 O (gL T s.i s.op++X) 84 [.ptr 0 0,.str [40]]=some (.tuple [],gB T (Z03 T s [40])++X):=λX hX=>by
  have h:=Z4Z p1 [40] s X hg ⟨hg.ok,hg.at0⟩ (λu hu=>(k2.trans k3).x u (by simpa only[n1]using hu)) hX
  simpa only[n1]using h
 have q2:GOK T (Z03 T s [40])->∀X,Z08 Z0z X=true->Z06 Y00 O (gL T (Z03 T s [40]).i (Z03 T s [40]).op++X) 77 [.ptr 0 0,.int .i64 0]=some (.agg (ex (Z03 T s [40])).1.cells,gB T (ex (Z03 T s [40])).2++X):=λh X hX=>Z4Z p2 () _ X h ⟨rfl,h⟩ k3.x hX
 have g2:=λ(h:GOK T (Z03 T s [40])) he=>h.go (hex h).1 k2 he
 have q3:GOK T (ex (Z03 T s [40])).2->∀X,Z08 Z0z X=true->Z06 Y00 O (gL T (ex (Z03 T s [40])).2.i (ex (Z03 T s [40])).2.op++X) 86 [.ptr 0 0,.str [41]]=some (.tuple [],gB T (Z03 T (ex (Z03 T s [40])).2 [41])++X):=λh X hX=>by
  have n3:lvF T (ex (Z03 T s [40])).2 [41]=Z03 T (ex (Z03 T s [40])).2 [41]:=ZfQ hT h.ok h.er rfl rfl rfl
  have h:=Z4Z p3 [41] _ X h ⟨h.ok,h.at0,by decide⟩ (λu hu=>by simpa only[n3]using hu) hX
  simpa only[n3]using h
 clear p1 p2 p3 n1 k1 k2 k3 hex hkr
 generalize Z03 T s [40]=s1 at *
 generalize ex s1=r at *
 obtain⟨⟨yo,yn,yt,yk⟩,s2⟩:=r
 simp only at q2 q3 g2 hO⊢
 generalize Z03 T s2 [41]=s3 at *
 refine Z0w Zrj 3 follows Z05 hO Tryz.func89 rfl ?_
 rw (occs:=.pos [1]) [Z0c h0]
 simp only[gL,LV,Y04,Y05,Ex.cells]at q1 q2 q3⊢
 repeat' ((conv=>whnf);first|(exact Or.inl rfl)|(refine Or.inr ?_)|(refine exG (q1 _ rfl) (λhd=>?_) (λe1=>?_))|(refine exG (q2 (g1 e1) _ rfl) (λhd=>?_) (λe2=>?_))|(refine exG (q3 (g2 (g1 e1) e2) _ rfl) (λhd=>?_) (λe3=>?_))|refine stp ?_|with_reducible apply Z01<;>intro h)
 all_goals (conv=>whnf)
 all_goals exact⟨[],M11,rfl,(by refine Z0G ?_ ?_ ?_<;>first|rfl|exact e3),rfl,rfl,.inl (Y03 rfl)⟩
end
section
variable {gl:Z0k}
def ZmZ(T:List Tq)(E:Ps->Ex)(N:Ps->Ps)(G:Ps->Prop)(ok:∀s,G s->GX gl T 89 [.ptr 0 0] s (.agg (E s).cells) (N s)):FamX Y00 gl:=Z9r T 89 (by kernel_rfl) (I:=Unit) (λ_ s=>G s) (λ_=>[.ptr 0 0]) (λ_ s=>.agg (E s).cells) (λ_ s=>N s) (λ_=>rfl) (λ_ _ _=>rfl) (λ_ s h=>ok s h)
def Zps(f:Nat):Bool:=Y01 f 100 || (Y01 f 80 || (Y01 f 119 || Y01 f 89))
theorem ZlT {T : List Tq} {s : Ps} {d : Nat} (hT : TqOK T) (hg : GOK T s)
  (hun:gis T s 4 [45]=true\/gis T s 4 [33]=true->s.op≠200->GOK T (upF s)/\PsGo T (upF s) (unF T d (upF s)).2/\GX gl T 108 [.ptr 0 0] (upF s) (.agg (unF T d (upF s)).1.cells) (unF T d (upF s)).2)
  (hlv:gis T s 4 [40]=true->GOK T (Z03 T s [40])->PsGo T (Z03 T s [40]) (Z3A T (unF T d) 9 (Z03 T s [40])).2/\GX gl T 77 [.ptr 0 0,.int .i64 0] (Z03 T s [40]) (.agg (Z3A T (unF T d) 9 (Z03 T s [40])).1.cells) (Z3A T (unF T d) 9 (Z03 T s [40])).2) :
  GX gl T 108 [.ptr 0 0] s (.agg (unF T (d+1) s).1.cells) (unF T (d+1) s).2:=by
 refine GX.of λh0=>?_
 have hx:=tq4 T s.i hg.ok.lt
 rw[<- Z0t hg.ok.lt]at hx
 have hlt:=hg.ok.lt
 have hfew:=hg.ok.few
 have wa:IntKind.i64.wrap ((s.i:Int)+1)=((s.i+1:Nat):Int):=Z1P (by omega)
 have f45:=Z4X hT hg.ok hg.er (w:=[45]) rfl
 have f33:=Z4X hT hg.ok hg.er (w:=[33]) rfl
 have f40:=Z4X hT hg.ok hg.er (w:=[40]) rfl
 by_cases hs:gis T s 4 [45]=true\/gis T s 4 [33]=true
 · obtain ⟨O, hO, ⟨p1, p2, -⟩, -⟩ := Z2w (P := Y00) (gl := gl) (XF (unF T (d + 1) s).2) [Zd5 T, Z9r T 119 (by kernel_rfl) (I := Int) (fun op t => t = s /\ ((gis T s 4 [45] = true /\ op = 3) \/ (gis T s 4 [33] = true /\ op = 4))) (fun op => [.ptr 0 0, .int .i64 op]) (fun _ t => .agg (unF T (d + 1) t).1.cells) (fun _ t => (unF T (d + 1) t).2) (fun _ => rfl) (fun i j h => by simpa using h) (fun op t h => by
    rw[h.1]
    rcases h.2 with ⟨h1,rfl⟩|⟨h1,rfl⟩
    ·exact Zd6 hT hg 3 [45] (.inl ⟨rfl,rfl⟩) h1 (hun (.inl h1))
    ·exact Zd6 hT hg 4 [33] (.inr ⟨rfl,rfl⟩) h1 (hun (.inr h1)))] [] rfl
   have i1:=λX hX=>ZmC p1 hg (k:=4) (w:=[45]) rfl (X:=X) hX
   have i2:=λX hX=>ZmC p1 hg (k:=4) (w:=[33]) rfl (X:=X) hX
   have qa:∀op,((gis T s 4 [45]=true/\op=3)\/(gis T s 4 [33]=true/\op=4))->∀X,Z08 Z0z X=true->Z06 Y00 O (gL T s.i s.op++X) 119 [.ptr 0 0,.int .i64 op]=some (.agg (unF T (d+1) s).1.cells,gB T (unF T (d+1) s).2++X):=λop h X hX=>Z4Z p2 op s X hg ⟨rfl,h⟩ (λu hu=>hu) hX
   clear p1 p2 hun hlv f45 f33 f40
   generalize Z0r T s=t at *
   obtain⟨kd,tx,nm,ps⟩:=t
   generalize unF T (d+1) s=r at *
   obtain⟨⟨yo,yn,yt,yk⟩,s1⟩:=r
   have hs2:gis T s 4 [45]=true\/(gis T s 4 [45]=false/\gis T s 4 [33]=true):=by
    cases h:gis T s 4 [45] with
    |true=>exact .inl rfl
    |false=>rw[h]at hs;exact .inr ⟨rfl,hs.resolve_left (by decide)⟩
   refine Z0w Zps 3 follows Z05 hO Y0l rfl ?_
   rw (occs:=.pos [1]) [Z0c h0]
   simp only[gL,LV,Tq.cells,Ex.cells,Y04,Y05]at i1 i2 qa hx⊢
   rcases hs2 with h1|⟨h1,h2⟩
   case' inl=>have qb:=qa 3 (.inl ⟨h1,rfl⟩)
   case' inr =>
    have qb:=qa 4 (.inr ⟨h2,rfl⟩)
    rw[h2]at i2
   all_goals rw[h1]at i1
   all_goals clear qa
   all_goals repeat' ((conv=>whnf);first|(exact Or.inl rfl)|(refine Or.inr ?_)|refine exI hx ?_|refine exI (i1 _ rfl) ?_|refine exI (i2 _ rfl) ?_|(refine exG (qb _ rfl) (λhd=>?_) (λe1=>?_))|(with_reducible refine ixJ s.i rfl ?_ ?_;focus omega)|refine stp ?_|with_reducible apply Z01<;>intro h)
   all_goals (conv=>whnf)
   all_goals exact⟨[],M11,rfl,(by refine Z0G ?_ ?_ ?_<;>first|rfl|exact e1),rfl,rfl,.inl (Y03 rfl)⟩
 have b45:gis T s 4 [45]=false:=by
  cases h:gis T s 4 [45] with
  |false=>rfl
  |true=>exact absurd (.inl h) hs
 have b33:gis T s 4 [33]=false:=by
  cases h:gis T s 4 [33] with
  |false=>rfl
  |true=>exact absurd (.inr h) hs
 have e0:unF T (d+1) s=Z1m T (Z3A T (unF T d) 9) s:=by
  have e1:unF T (d+1) s=if isF T s [45]=false/\isF T s [33]=false then Z1m T (Z3A T (unF T d) 9) s else if s.op=200 then (ex0,Z0p s 3 (Z0r T s).pos) else (.mk (if isF T s [33]=true then 4 else 3) 0 [] [(unF T d (upF s)).1],{ (unF T d (upF s)).2 with op:=(unF T d (upF s)).2.op-1 }):=rfl
  rw[e1,if_pos ⟨f45.symm.trans b45,f33.symm.trans b33⟩]
 rw[e0]
 clear e0 hun hs
 have hkr:=ZaN (T:=T) (Ze2 T d) 9
 generalize Z3A T (unF T d) 9=ex at *
 by_cases hb:gis T s 4 [40]=true
 · have hk4:=Z6H hb
   have htb:Z0L T s [40] = !(s.op==200):=by
    unfold Z0L
    rw[<- f40,hb];rfl
   have e0:Z1m T ex s=if Z0L T s [40]=true then ((ex (Z0l T s [40])).1,Z03 T (ex (Z0l T s [40])).2 [41]) else (ex0,Z0p (Z0l T s [40]) 5 (Z0r T s).pos):=by
    unfold Z1m
    rw[if_neg (by simpa using hg.er),if_neg (by omega),if_neg (by omega)]
   have hno:(Z03 T s [40])=if Z0L T s [40]=true then Z0l T s [40] else Z0p (Z0l T s [40]) 5 (Z0r T (Z0l T s [40])).pos:=rfl
   have k1:=Z0s T s [40]
   have k23:Kr (Z03 T s [40]) (Z03 T (ex (Z03 T s [40])).2 [41]):=(hkr _).trans (Z0s T _ _)
   obtain⟨O,hO,⟨p1,p2,-⟩,-⟩:=Z2w (P:=Y00) (gl:=gl) (XF (Z1m T ex s).2) [Zd5 T,ZmZ T (λt=>(ex (Z03 T t [40])).1) (λt=>Z03 T (ex (Z03 T t [40])).2 [41]) (λt=>t=s) (λt h=>by rw[h];exact Zjl hT hg hkr (hlv hb))] [] rfl
   have i1:=λX hX=>ZmC p1 hg b45 (X:=X) hX
   have i2:=λX hX=>ZmC p1 hg b33 (X:=X) hX
   have i3:=λX hX=>ZmC p1 hg hb (X:=X) hX
   by_cases h5:s.op=200
   · have htb2:Z0L T s [40]=false:=by rw[htb,h5];rfl
     have ht:Z0l T s [40]=Z0p s 3 (Z0r T s).pos:=by
      unfold Z0l
      rw[if_pos (f40.symm.trans hb),if_pos ⟨rfl,h5⟩]
     have hf2:∀e a,Z0p (Z0p s 3 (Z0r T s).pos) e a=Z0p s 3 (Z0r T s).pos:=λe a=>by
      rw[Z0p,if_neg (Z1Y (by decide))]
     rw[e0,htb2,if_neg (by decide),ht,hf2]at hO⊢
     rw[htb2,if_neg (by decide),ht,hf2]at hno
     have her:=(k23.st (by rw[hno];exact Z1Y (by decide)))
     have hN:(Z03 T (ex (Z03 T s [40])).2 [41]).err≠0:=by rw[her.1,hno];exact Z1Y (by decide)
     have qb:∀X,Z08 Z0z X=true->Z06 Y00 O (gL T s.i s.op++X) 89 [.ptr 0 0]=some (.agg (ex (Z03 T s [40])).1.cells,gD (Z03 T (ex (Z03 T s [40])).2 [41])++X):=λX hX=>ZqO p2 () s X hg rfl (λu hu=>by
      rw[e0,htb2,if_neg (by decide),ht,hf2]
      obtain⟨g1,g2⟩:=hu
      refine⟨Z1Y (by decide),?_⟩
      rw[g2]
      simp only
      rw[her.1,her.2,hno]) hX hN
     clear p1 p2 hno her hN k1 k23 hlv e0
     generalize Z03 T (ex (Z03 T s [40])).2 [41]=s3 at *
     generalize ex (Z03 T s [40])=r at *
     obtain⟨⟨yo,yn,yt,yk⟩,s2⟩:=r
     generalize hF:Z0p s 3 (Z0r T s).pos=sF at *
     clear hF ht
     generalize Z0r T s=t at *
     obtain⟨kd,tx,nm,ps⟩:=t
     simp only at hk4
     subst hk4
     refine Z0w Zps 3 follows Z05 hO Y0l rfl ?_
     rw (occs:=.pos [1]) [Z0c h0]
     simp only[gL,LV,gD,Tq.cells,Ex.cells,Y04,Y05]at i1 i2 i3 qb hx⊢
     all_goals repeat' ((conv=>whnf);first|(exact Or.inl rfl)|(refine Or.inr ?_)|refine exI hx ?_|refine exI (i1 _ rfl) ?_|refine exI (i2 _ rfl) ?_|refine exI (i3 _ rfl) ?_|refine exI (qb _ rfl) ?_|(with_reducible refine ixJ s.i rfl ?_ ?_;focus omega)|refine stp ?_|with_reducible apply Z01<;>intro h)
   · have h5b:(s.op==200)=false:=by simpa using h5
     have htb2:Z0L T s [40]=true:=by rw[htb,h5b];rfl
     rw[htb2,if_pos rfl]at hno
     rw[e0,htb2,if_pos rfl,<- hno]at hO⊢
     have qb:∀X,Z08 Z0z X=true->Z06 Y00 O (gL T s.i s.op++X) 89 [.ptr 0 0]=some (.agg (ex (Z03 T s [40])).1.cells,gB T (Z03 T (ex (Z03 T s [40])).2 [41])++X):=λX hX=>Z4Z p2 () s X hg rfl (λu hu=>by
      rw[e0,htb2,if_pos rfl,<- hno]
      exact hu) hX
     clear p1 p2 hno k1 k23 hlv e0
     simp only at hO⊢
     generalize Z03 T (ex (Z03 T s [40])).2 [41]=s3 at *
     generalize ex (Z03 T s [40])=r at *
     obtain⟨⟨yo,yn,yt,yk⟩,s2⟩:=r
     generalize Z0r T s=t at *
     obtain⟨kd,tx,nm,ps⟩:=t
     simp only at hk4
     subst hk4
     refine Z0w Zps 3 follows Z05 hO Y0l rfl ?_
     rw (occs:=.pos [1]) [Z0c h0]
     simp only[gL,LV,Tq.cells,Ex.cells,Y04,Y05]at i1 i2 i3 qb hx⊢
     all_goals repeat' ((conv=>whnf);first|(exact Or.inl rfl)|(refine Or.inr ?_)|refine exI hx ?_|refine exI (i1 _ rfl) ?_|refine exI (i2 _ rfl) ?_|refine exI (i3 _ rfl) ?_|(refine exG (qb _ rfl) (λhd=>?_) (λe1=>?_))|(with_reducible refine ixJ s.i rfl ?_ ?_;focus omega)|refine stp ?_|with_reducible apply Z01<;>intro h)
     all_goals (conv=>whnf)
     all_goals exact⟨[],M11,rfl,(by refine Z0G ?_ ?_ ?_<;>first|rfl|exact e1),rfl,rfl,.inl (Y03 rfl)⟩
 · have hb:=Y0f.2 hb
   have hF40:=f40.symm.trans hb
   have htb2:Z0L T s [40]=false:=by unfold Z0L;rw[hF40];rfl
   have ht:Z0l T s [40]=s:=by unfold Z0l;rw[hF40];rfl
   obtain⟨O,hO,⟨p1,p2,-⟩,-⟩:=Z2w (P:=Y00) (gl:=gl) (XF (Z1m T ex s).2) [Zd5 T,Z6F T] [] rfl
   have i1:=λX hX=>ZmC p1 hg b45 (X:=X) hX
   have i2:=λX hX=>ZmC p1 hg b33 (X:=X) hX
   have i3:=λX hX=>ZmC p1 hg hb (X:=X) hX
   by_cases h3:(Z0r T s).kind=3
   · have e0 : Z1m T ex s = (.mk 1 (Z0r T s).num [] [], { s with i := s.i + 1 }) := by
      unfold Z1m
      rw[if_neg (by simpa using hg.er),if_pos h3]
     rw[e0]at hO⊢
     clear p1 p2 e0 hlv
     generalize Z0r T s=t at *
     obtain⟨kd,tx,nm,ps⟩:=t
     simp only at h3
     subst h3
     refine Z0w Zps 3 follows Z05 hO Y0l rfl ?_
     rw (occs:=.pos [1]) [Z0c h0]
     simp only[gL,LV,Tq.cells,Ex.cells,Y04,Y05]at i1 i2 i3 hx⊢
     all_goals repeat' ((conv=>whnf);first|(refine Or.inr ?_)|refine exI hx ?_|refine exI (i1 _ rfl) ?_|refine exI (i2 _ rfl) ?_|refine exI (i3 _ rfl) ?_|(with_reducible refine exW wa ?_)|(with_reducible refine ixJ s.i rfl ?_ ?_;focus omega)|refine stp ?_|with_reducible apply Z01<;>intro h)
     all_goals (conv=>whnf)
     all_goals exact⟨[],M11,rfl,(by refine Z0G ?_ ?_ ?_<;>first|rfl|exact h0),rfl,rfl,.inl Z49⟩
   · have e3:((Z0r T s).kind==3)=false:=by simpa using h3
     by_cases h1:(Z0r T s).kind=1
     · have hwb:Z1Q T s=true:=by unfold Z1Q;rw[hg.er,h1];rfl
       have hwF:Z0e T s={ s with i:=s.i+1 }:=by unfold Z0e;rw[if_pos hwb]
       have hwT:Z0Z T s=(Z0r T s).text:=by unfold Z0Z;rw[if_pos hwb]
       have e0:Z1m T ex s=(.mk 2 0 (Z0r T s).text [],{ s with i:=s.i+1 }):=by
        unfold Z1m
        rw[if_neg (by simpa using hg.er),if_neg h3,if_pos h1]
       rw[e0]at hO⊢
       have qw:∀X,Z08 Z0z X=true->Z06 Y00 O (gL T s.i s.op++X) 80 [.ptr 0 0]=some (.str (Z0r T s).text,gL T (s.i+1) s.op++X):=λX hX=>by
        have h:=Zr1 p2 () s X hg ⟨hg.ok,hg.at0⟩ hX hwF hg.er
        simpa only[hwT]using h
       clear p1 p2 e0 hlv hwT hwF hwb
       generalize Z0r T s=t at *
       obtain⟨kd,tx,nm,ps⟩:=t
       simp only at h1
       subst h1
       refine Z0w Zps 3 follows Z05 hO Y0l rfl ?_
       rw (occs:=.pos [1]) [Z0c h0]
       simp only[gL,LV,Tq.cells,Ex.cells,Y04,Y05]at i1 i2 i3 hx qw⊢
       all_goals repeat' ((conv=>whnf);first|(refine Or.inr ?_)|refine exI hx ?_|refine exI (i1 _ rfl) ?_|refine exI (i2 _ rfl) ?_|refine exI (i3 _ rfl) ?_|refine exI (qw _ rfl) ?_|(with_reducible refine ixJ s.i rfl ?_ ?_;focus omega)|refine stp ?_|with_reducible apply Z01<;>intro h)
       all_goals (conv=>whnf)
       all_goals exact⟨[],M11,rfl,(by refine Z0G ?_ ?_ ?_<;>first|rfl|exact h0),rfl,rfl,.inl Z49⟩
     · have hwb : Z1Q T s = false := by
        unfold Z1Q
        rw[show ((Z0r T s).kind==1)=false by simpa using h1,Bool.and_false]
       have hwF:Z0e T s=Z0p s 5 (Z0r T s).pos:=by unfold Z0e;rw[hwb];rfl
       have e0:Z1m T ex s=(ex0,Z0p s 5 (Z0r T s).pos):=by
        unfold Z1m
        rw[if_neg (by simpa using hg.er),if_neg h3,if_neg h1,htb2,if_neg (by decide),ht]
       rw[e0]at hO⊢
       have qw:∀X,Z08 Z0z X=true->Z06 Y00 O (gL T s.i s.op++X) 80 [.ptr 0 0]=some (.str (Z0Z T s),gD s++X):=λX hX=>by
        have h:=ZqO p2 () s X hg ⟨hg.ok,hg.at0⟩ (λu hu=>by rw[e0];rw[hwF]at hu;exact hu) hX (by simp only[hwF];exact Z1Y (by decide))
        simpa only[hwF,Zjp]using h
       clear p1 p2 e0 hlv hwF hwb
       generalize Z0Z T s=wt at *
       generalize hF:Z0p s 5 (Z0r T s).pos=sF at *
       clear hF
       generalize Z0r T s=t at *
       obtain⟨kd,tx,nm,ps⟩:=t
       refine Z0w Zps 3 follows Z05 hO Y0l rfl ?_
       rw (occs:=.pos [1]) [Z0c h0]
       simp only[gL,LV,gD,Tq.cells,Ex.cells,Y04,Y05]at i1 i2 i3 hx qw⊢
       all_goals repeat' ((conv=>whnf);first|(exact Or.inl rfl)|(refine Or.inr ?_)|refine exI hx ?_|refine exI (i1 _ rfl) ?_|refine exI (i2 _ rfl) ?_|refine exI (i3 _ rfl) ?_|refine exI (qw _ rfl) ?_|(with_reducible refine ixJ s.i rfl ?_ ?_;focus omega)|refine stp ?_|with_reducible apply Z01<;>intro h)
end
section
variable {gl:Z0k}
theorem Zrt{T:List Tq}{s:Ps}(hg:GOK T s){un:Ps->Ex×Ps}(hq:GX gl T 108 [.ptr 0 0] s (.agg (un s).1.cells) (un s).2):GX gl T 77 [.ptr 0 0,.int .i64 9] s (.agg (un s).1.cells) (un s).2:=by
 refine GX.of λh0=>?_
 obtain⟨O,hO,⟨p1,-⟩,-⟩:=Z2w (P:=Y00) (gl:=gl) (XF (un s).2) [Zn1 T un (λt=>t=s) (λt h=>by rw[h];exact hq)] [] rfl
 have q1:∀X,Z08 Z0z X=true->Z06 Y00 O (gL T s.i s.op++X) 108 [.ptr 0 0]=some (.agg (un s).1.cells,gB T (un s).2++X):=λX hX=>Z4Z p1 () s X hg rfl (λu hu=>hu) hX
 clear p1 hq
 generalize un s=r at *
 obtain⟨⟨yo,yn,yt,yk⟩,s1⟩:=r
 refine Z0w Zrn 3 follows Z05 hO Tryz.func77 rfl ?_
 rw (occs:=.pos [1]) [Z0c h0]
 simp only[gL,LV,Ex.cells,Y04,Y05]at q1⊢
 repeat' ((conv=>whnf);first|(exact Or.inl rfl)|(refine Or.inr ?_)|(refine exG (q1 _ rfl) (λhd=>?_) (λe1=>?_))|refine stp ?_|with_reducible apply Z01<;>intro h)
 all_goals (conv=>whnf)
 all_goals exact⟨[],M11,rfl,(by refine Z0G ?_ ?_ ?_<;>first|rfl|exact e1),rfl,rfl,.inl (Y03 rfl)⟩
theorem ZeD {T : List Tq} (hT : TqOK T) {i0 : Nat} {un : Ps -> Ex × Ps} (hkr : ∀ s, Kr s (un s).2) (hgo : ∀ s, PsOK T s -> i0 <= s.i -> PsGo T s (un s).2) (hun : ∀ s, GOK T s -> i0 <= s.i -> GX gl T 108 [.ptr 0 0] s (.agg (un s).1.cells) (un s).2) : ∀ (m : Nat), m <= 9 ->
  (∀s,PsOK T s->i0<=s.i->PsGo T s (Z3A T un m s).2)/\∀s,GOK T s->i0<=s.i->GX gl T 77 [.ptr 0 0,.int .i64 ((9-m:Nat):Int)] s (.agg (Z3A T un m s).1.cells) (Z3A T un m s).2
 |0,_=>⟨hgo,λs hs hi=>Zrt hs (hun s hs hi)⟩
 |m+1,hm=>by
  obtain⟨ih1,ih2⟩:=ZeD hT hkr hgo hun m (by omega)
  refine⟨λs hs hi=>?_,λs hs hi=>?_⟩
  · have h1:=ih1 s hs hi
    exact h1.trans (Zew (λt h h2=>ih1 t h h2) _ _ _ _ h1.ok (Y06 hi h1.on))
  have e:9-m=(8-m)+1:=by omega
  have e2:9-(m+1)=8-m:=by omega
  rw[e]at ih2
  rw[e2]
  exact ZeC hT (n:=8-m) (by omega) hs.ok hs.at0 (λt h h2=>ih1 t h (Y06 hi h2)) (λt=>ZaN hkr m t) (λt h h2=>ih2 t h (Y06 hi h2))
theorem Zo4{T:List Tq}{s:Ps}{w:List UInt8}(he:(Z03 T s w).err=0):(Z03 T s w).i=s.i+1:=by
 have h0:=(Z0s T s w).live he
 unfold Z03 at he⊢
 split
 ·rename_i h;exact Ze9 h
 · rename_i h
   rw[if_neg h]at he
   exact absurd he (Z1Y (by decide))
theorem Zn0{T:List Tq}(hT:TqOK T):∀(d:Nat)(s:Ps),GOK T s->T.length-s.i<=d->GX gl T 108 [.ptr 0 0] s (.agg (unF T d s).1.cells) (unF T d s).2
 |0,s,hs,hd=>by have:=hs.ok.lt;omega
 |d+1,s,hs,hd=>by
  have hlt:=hs.ok.lt
  have hlo:=hs.ok.lo
  have hhi:=hs.ok.hi
  have hun:∀t,GOK T t->s.i+1<=t.i->GX gl T 108 [.ptr 0 0] t (.agg (unF T d t).1.cells) (unF T d t).2:=λt h h2=>Zn0 hT d t h (by omega)
  have hgo:∀t,PsOK T t->s.i+1<=t.i->PsGo T t (unF T d t).2:=λt h h2=>(Zl7 (gl:=gl) d t h (by omega)).1
  obtain⟨h1,h2⟩:=ZeD hT (Ze2 T d) hgo hun 9 (Y09 _)
  refine ZlT hT hs (λhb h5=>?_) (λhb hn=>?_)
  · have hk : (Z0r T s).kind ≠ 5 := by
     rcases hb with hb|hb
     ·rw[Z6H hb];decide
     ·rw[Z6H hb];decide
    rw[Z0t hlt]at hk
    have hup:PsOK T (upF s):=⟨hs.ok.last _ hlt hk,hs.ok.few,hs.ok.last,by show -((s.i+1:Nat):Int)<=s.op+1;omega,by show s.op+1<=200;omega⟩
    have hgu:GOK T (upF s):=⟨hup,hs.er,hs.at0⟩
    exact⟨hgu,hgo _ hup (Y09 _),hun _ hgu (Y09 _)⟩
  · have hi:s.i+1<=(Z03 T s [40]).i:=by rw[Zo4 hn.er];exact Y09 _
    exact⟨h1 _ hn.ok hi,h2 _ hn hi⟩
theorem Zg5{T:List Tq}(hT:TqOK T){s:Ps}(hs:GOK T s):GX gl T 77 [.ptr 0 0,.int .i64 0] s (.agg (Z0D T s).1.cells) (Z0D T s).2 :=
 (ZeD (i0:=0) hT (Ze2 T T.length) (λs h _=>(Zl7 (gl:=gl) T.length s h (by omega)).1) (λs h _=>Zn0 hT T.length s h (by omega)) 9 (Y09 _)).2 s hs (Y0n _)
def Z8E(T:List Tq)(hT:TqOK T):FamX Y00 gl:=Zjf T 0 (Z0D T) (λt=>GOK T t) (λt h=>Zg5 hT h)
theorem ZlZ{T:List Tq}(hT:TqOK T){s:Ps}(hs:GOK T s):GX gl T 89 [.ptr 0 0] s (.agg (Z28 T s).1.cells) (Z28 T s).2 :=
 Zjl hT hs (Z6M T) (λh=>⟨Z2i h.ok,Zg5 hT h⟩)
def ZbE(T:List Tq)(hT:TqOK T):FamX Y00 gl:=ZmZ T (λt=>(Z28 T t).1) (λt=>(Z28 T t).2) (λt=>GOK T t) (λt h=>ZlZ hT h)
def ZeA(T:List Tq)(hT:TqOK T):FamX Y00 gl:=Z9r T 85 (by kernel_rfl) (I:=Unit) (λ_ s=>GOK T s) (λ_=>[.ptr 0 0]) (λ_ s=>.int .i64 (Z0a T s ordL 1).1) (λ_ s=>(Z0a T s ordL 1).2) (λ_=>rfl) (λ_ _ _=>rfl) (λ_ s h=>Zjd hT h.ok h.at0)
end
section
variable {gl:Z0k}
def Z1A(s:List UInt8):Bool:=!s.isEmpty&&(Z0j s==s.length && !keysL.contains s)
theorem ZhN(s:List UInt8):∃k w,Z47 s = .tuple [.int .i64 k,.bool w]/\(w&&(k==1))=Z1A s/\(k==1)=Z1A s:=by
 unfold Z47 Z1A
 by_cases h0:s=[]
 ·subst h0;exact⟨0,false,by rw[if_neg (λh=>h.1 rfl)],rfl,rfl⟩
 · by_cases hw:Z0j s=s.length
   · rw[if_pos ⟨h0,hw⟩]
     refine⟨_,_,rfl,?_⟩
     have:s.isEmpty=false:=by cases s with|nil=>exact absurd rfl h0|cons _ _=>rfl
     rw[this,hw]
     cases keysL.contains s<;>simp
   · rw[if_neg (λh=>hw h.2)]
     refine⟨_,_,rfl,?_⟩
     have:(Z0j s==s.length)=false:=by simpa using hw
     rw[this];simp
theorem Zd2(s:List UInt8)(hs:s.length<=9223372036854775807)(m:Bool):ValOK Y00 gl 63 [.str s,.bool m] (.bool (if m then Z1A s else s==[])):=by
 obtain⟨k,w,h1,h2,h3⟩:=ZhN s
 have hO:=Zap (P:=Y00) (gl:=gl) (l:=[(105,[.str s],Z47 s)]) ⟨rfl,ZkX s hs,trivial⟩
 have q:∀H,Z06 Y00 (Zq0 [(105,[.str s],Z47 s)]) H 105 [.str s]=some (Z47 s,H):=λH=>ZqL (by kernel_rfl) ZaD
 rw[h1]at q hO
 rw[<- h3]
 cases m with
 |true =>
  refine Z0v follows Z05 hO Tryz.func63 rfl ?_
  repeat' ((conv=>whnf);first|refine exI (q _) ?_|refine stp ?_|with_reducible apply Z01<;>intro h)
  all_goals rfl
 |false =>
  refine Z0v follows Z05 hO Tryz.func63 rfl ?_
  repeat' ((conv=>whnf);first|refine exI (q _) ?_|refine stp ?_|with_reducible apply Z01<;>intro h)
  all_goals rfl
end
section
variable {gl:Z0k}
def okN(s:List UInt8)(n:Nat):Prop:=s.length<=9223372036854775807/\n<=9223372036854775807
mutual
def okE:Ex->Prop
 | .mk _ _ s k=>okN s k.length/\okL k
def okL:List Ex->Prop
 |[]=>True
 |e::l=>okE e/\okL l
end
theorem Z5Y:∀{l:List Ex},okL l->∀e∈l,okE e
 |x::l,h,e,he=>by
  simp only[okL]at h
  rcases Y0o.1 he with rfl|he
  ·exact h.1
  ·exact Z5Y h.2 e he
theorem Z6y:∀{e:Ex},okE e->okN e.name e.kids.length/\okL e.kids
 | .mk _ _ s k,h=>by simp only[okE]at h;exact h
def Z7n(op:Int):Int:=if op=1\/op=2 then 0 else if op=3\/op=4 then 1 else if 5<=op/\op<=16 then 2 else -1
def Zbt(op num:Int)(name:List UInt8)(n:Nat):Bool:=Z7n op==(n:Int)&&((op==2)==Z1A name&&((op==2 || name==[])&&(decide (0<=num)&&(op==1 || num==0))))
def Zrf(e:Ex):Bool:=Zbt e.op e.num e.name e.kids.length
mutual
def Z14:Ex->Bool
 | .mk o n s k=>Zbt o n s k.length&&rightL k
def rightL:List Ex->Bool
 |[]=>true
 |e::l=>Z14 e&&rightL l
end
def Z2V(e:Ex):Int:=if 2000<Z0A e\/32<Z4z e then 3 else if Z14 e then 0 else 2
end
section
theorem FgLK.same{k:Nat}{t0 tm:Tr}{H:Z00}{l:List (Nat×AV)}(h1:ZhF t0 tm=true)(hs:SlotsGe (List.range k) tm l)(hH:HpGe H (List.range k) (List.range k) H 0/\Z0U ((List.range k).map (Z1x H))=true/\ZfK k 0 (List.range k)=true):FgLK k t0 tm H l H:=by
 unfold FgLK
 rw[h1]
 exact .inl ⟨List.range k,hH.2.2,hs,hH.1,hH.2.1⟩
structure TvE (gl:Z0k) where
 σ : Type
 Mem : σ -> Z00
 k:Nat
 len:∀s,(Mem s).length=k
 same:∀s,HpGe (Mem s) (List.range k) (List.range k) (Mem s) 0/\Z0U ((List.range k).map (Z1x (Mem s)))=true/\ZfK k 0 (List.range k)=true
 evo:∀s s',ZkT k (Mem s) (Mem s')=true
 inj:∀s s',Mem s=Mem s'->s=s'
 I:Int -> σ -> Nat->Prop
 up:∀d s m,0<=d->I (d+1) s m->I d s m
 less:∀d s m,I d s (m+1)->I d s m
 bnd:∀d s m,I d s m->0<=d/\d<=1152921504606846976
 gE:Nat
 cE:List AV
 hE:Ex->Int -> σ -> Bool×σ
 bodyE:Z0m Y00 gE=true
 wkE:WkL (List.range k) cE cE
 okE:∀e rest d s m,okE e->I d s (m+1)->Z1v Y00 gl gE ([.rp (e.cells++rest),.int .i64 d]++cE) (Mem s) (.bool (hE e d s).1) (Mem (hE e d s).2)
 downE:∀e d s m,I d s (m+1)->(hE e d s).1=true->I (d+1) (hE e d s).2 m
section
variable {σ : Type}
mutual
def goE(h:Ex->Int -> σ -> Bool×σ):Ex->Int -> σ -> Bool×σ
 | .mk o n s k,d,t=>if (h (.mk o n s k) d t).1=true then goL h k (d+1) (h (.mk o n s k) d t).2 else (false,(h (.mk o n s k) d t).2)
def goL(h:Ex->Int -> σ -> Bool×σ):List Ex->Int -> σ -> Bool×σ
 |[],d,t=>(true,t)
 |e::l,d,t=>if (goE h e d t).1=true then goL h l d (goE h e d t).2 else (false,(goE h e d t).2)
end
variable {h:Ex->Int -> σ -> Bool×σ}
theorem Zql(e:Ex)(d:Int)(t : σ):goE h e d t=if (h e d t).1=true then goL h e.kids (d+1) (h e d t).2 else (false,(h e d t).2):=by
 obtain⟨o,n,s,k⟩:=e
 simp only[goE,Ex.kids]
theorem Zn4:∀(l:List Ex)(d:Int)(t : σ)(i:Nat)(hi:i<l.length),(goL h (l.take i) d t).1=true->goL h (l.take (i+1)) d t=goE h l[i] d (goL h (l.take i) d t).2
 |e::l,d,t,0,_,_=>by
  simp only[Y0q,Y0u,goL,Y0z]
  split
  ·rename_i h2;rw[<- h2]
  ·rename_i h2;rw[<- Y0f.2 h2]
 |e::l,d,t,i+1,hi,ht=>by
  simp only[Y0u,goL,Y0A]at ht⊢
  split
  · rename_i h2
    rw[if_pos h2]at ht
    exact Zn4 l d _ i (by simpa using hi) ht
  ·rename_i h2;rw[if_neg h2]at ht;cases ht
theorem Zg2:∀(l:List Ex)(d:Int)(t : σ)(i:Nat),(goL h (l.take i) d t).1=false->goL h l d t=goL h (l.take i) d t
 |[],d,t,i,hf=>by simp
 |e::l,d,t,0,hf=>by simp only[Y0q,goL]at hf;cases hf
 |e::l,d,t,i+1,hf=>by
  simp only[Y0u,goL]at hf⊢
  split
  · rename_i h2
    rw[if_pos h2]at hf
    exact Zg2 l d _ i hf
  ·rfl
end
section
variable {gl:Z0k} (V:TvE gl)
def TvE.F:AV:=.func (.func V.gE) [] V.cE
mutual
theorem TvE.keepE:∀(e:Ex)(d:Int)(s:V.σ)(m:Nat),V.I d s (Z0A e+m)->(goE V.hE e d s).1=true->V.I d (goE V.hE e d s).2 m
 | .mk o n t k,d,s,m,hI,ht=>by
  simp only[goE,Z0A]at hI ht⊢
  split
  · rename_i h2
    rw[if_pos h2]at ht
    have h3:=V.downE _ d s (sizeL k+m) (by rw[show 1+sizeL k+m=sizeL k+m+1 from by omega]at hI;exact hI) h2
    exact V.up _ _ _ (V.bnd _ _ _ hI).1 (TvE.keepL k (d+1) _ m h3 ht)
  ·rename_i h2;rw[if_neg h2]at ht;cases ht
theorem TvE.keepL:∀(l:List Ex)(d:Int)(s:V.σ)(m:Nat),V.I d s (sizeL l+m)->(goL V.hE l d s).1=true->V.I d (goL V.hE l d s).2 m
 |[],d,s,m,hI,ht=>by simp only[goL,sizeL,Nat.zero_add]at hI⊢;exact hI
 |e::l,d,s,m,hI,ht=>by
  simp only[goL,sizeL]at hI ht⊢
  split
  · rename_i h2
    rw[if_pos h2]at ht
    exact TvE.keepL l d _ m (TvE.keepE e d s (sizeL l+m) (by rw[<- Nat.add_assoc];exact hI) h2) ht
  ·rename_i h2;rw[if_neg h2]at ht;cases ht
end
theorem ZlN(e:Ex)(rest:List AV):tk 1 ((e.cells++rest).drop 3)=some [exA e.kids]:=by
 obtain⟨o,n,s,k⟩:=e
 simp only[Ex.cells,exA,Ex.kids];rfl
theorem TvE.fin(s t:V.σ)(b:Bool):List.take V.k (V.Mem t)=V.Mem t/\(Z11 V.k (Z2a (AV.bool b) [])&&ZkT V.k (V.Mem s) (V.Mem t))=true :=
 ⟨List.take_of_length_le (by rw[V.len];exact Y09 _),by rw[V.evo];rfl⟩
theorem TvE.exprs (hf : Y00.follows .mixedOrders = true) : ∀ (n : Nat) (l : List Ex) (d : Int) (s : V.σ) (m : Nat), sizeL l <= n -> okL l -> l.length <= 9223372036854775807 -> V.I d s (sizeL l + m) ->
  Z1v Y00 gl 78 [exA l,.int .i64 d,V.F] (V.Mem s) (.bool (goL V.hE l d s).1) (V.Mem (goL V.hE l d s).2)
 |n,l,d,s,m,hn,hok,hl,hI=>by
  have hF : ∃ O, OrcSound Y00 gl O /\ (∀ (i : Nat) (hi : i < l.length) (t : V.σ) (q : Nat), n ≠ 0 -> V.I (d + 1) t (sizeL l[i].kids + q) -> Z06 Y00 O (V.Mem t) 78 [exA l[i].kids, .int .i64 (d + 1), V.F] = some (.bool (goL V.hE l[i].kids (d + 1) t).1, V.Mem (goL V.hE l[i].kids (d + 1) t).2)) /\
    (∀(i:Nat)(hi:i<l.length)(t:V.σ)(q:Nat),V.I d t (q+1)->Z06 Y00 O (V.Mem t) V.gE ([.rp ((exC l).drop (i*4)),.int .i64 d]++V.cE)=some (.bool (V.hE l[i] d t).1,V.Mem (V.hE l[i] d t).2)):=by
   have s1:=Z2u (P:=Y00) (gl:=gl) (I:=Nat×V.σ×Nat) (G:=λp=>∃hp:p.1<l.length,n≠0/\V.I (d+1) p.2.1 (sizeL l[p.1].kids+p.2.2)) (fF:=λ_=>78) (fA:=λp=>[exA (l.getD p.1 default).kids,.int .i64 (d+1),V.F]) (fH:=λp=>V.Mem p.2.1) (fR:=λp=>.bool (goL V.hE (l.getD p.1 default).kids (d+1) p.2.1).1) (fO:=λp=>V.Mem (goL V.hE (l.getD p.1 default).kids (d+1) p.2.1).2) λp hp=>by
    obtain⟨hp,h0,h1⟩:=hp
    have hg:l.getD p.1 default=l[p.1]:=by simp[Y0v,hp]
    rw[hg]
    have hke:=Z5Y hok _ (Z0N hp)
    have hsz:=Z1V _ _ (Z0N hp)
    have hsk:=Zag l[p.1]
    match n,hn,h0 with
    |n+1,hn,_=>exact TvE.exprs hf n _ (d+1) p.2.1 p.2.2 (by omega) (Z6y hke).2 (Z6y hke).1.2 h1
   have s2:=Z2u (P:=Y00) (gl:=gl) (I:=Nat×V.σ×Nat) (G:=λp=>p.1<l.length/\V.I d p.2.1 (p.2.2+1)) (fF:=λ_=>V.gE) (fA:=λp=>[.rp ((exC l).drop (p.1*4)),.int .i64 d]++V.cE) (fH:=λp=>V.Mem p.2.1) (fR:=λp=>.bool (V.hE (l.getD p.1 default) d p.2.1).1) (fO:=λp=>V.Mem (V.hE (l.getD p.1 default) d p.2.1).2) λp hp=>by
    obtain⟨hp,h1⟩:=hp
    have hg:l.getD p.1 default=l[p.1]:=by simp[Y0v,hp]
    have hke:=Z5Y hok _ (Z0N hp)
    simp only[hg]
    rw[Zge l p.1 hp]
    exact V.okE _ _ _ _ _ hke h1
   refine⟨_,Z1E s1 s2,λi hi t q h0 h1=>?_,λi hi t q h1=>?_⟩
   · have hg:l.getD i default=l[i]:=by simp[Y0v,hi]
     have:=Zdy (P:=Y00) (I:=Nat×V.σ×Nat) (G:=λp=>∃hp:p.1<l.length,n≠0/\V.I (d+1) p.2.1 (sizeL l[p.1].kids+p.2.2)) (fF:=λ_=>78) (fA:=λp=>[exA (l.getD p.1 default).kids,.int .i64 (d+1),V.F]) (fH:=λp=>V.Mem p.2.1) (fR:=λp=>.bool (goL V.hE (l.getD p.1 default).kids (d+1) p.2.1).1) (fO:=λp=>V.Mem (goL V.hE (l.getD p.1 default).kids (d+1) p.2.1).2)
      (fun p q _ _ _ ha hh => by
        have e2:=V.inj _ _ hh
        simp only[List.cons.injEq,and_true,true_and]at ha
        rw[Z9F ha,e2];exact⟨rfl,rfl⟩) (g:=78) (args:=[exA l[i].kids,.int .i64 (d+1),V.F]) (H:=V.Mem t) (by kernel_rfl) (i,t,q) ⟨hi,h0,h1⟩ rfl (by rw[hg]) rfl
     simp only[hg]at this
     exact callOr1 (by kernel_rfl) this
   · have hg:l.getD i default=l[i]:=by simp[Y0v,hi]
     refine Z54 V.bodyE (Z37 λp _ _ ha=>?_) ?_
     · have:=congrArg (λa=>a.head?) ha
       simp[exA]at this
     · have := Zdy (P := Y00) (I := Nat × V.σ × Nat) (G := fun p => p.1 < l.length /\ V.I d p.2.1 (p.2.2 + 1)) (fF := fun _ => V.gE) (fA := fun p => [.rp ((exC l).drop (p.1 * 4)), .int .i64 d] ++ V.cE) (fH := fun p => V.Mem p.2.1) (fR := fun p => .bool (V.hE (l.getD p.1 default) d p.2.1).1) (fO := fun p => V.Mem (V.hE (l.getD p.1 default) d p.2.1).2)
        (fun p q hp hq _ ha hh => by
          have e2:=V.inj _ _ hh
          simp only[Y04,Y05,List.cons.injEq,AV.rp.injEq,true_and,and_true]at ha
          have:=congrArg List.length ha
          simp only[List.length_drop,Z7w]at this
          have e:p.1=q.1:=by have:=hp.1;have:=hq.1;omega
          rw[e,e2];exact⟨rfl,rfl⟩) (g:=V.gE) (args:=[.rp ((exC l).drop (i*4)),.int .i64 d]++V.cE) (H:=V.Mem t) V.bodyE (i,t,q) ⟨hi,h1⟩ rfl rfl rfl
       simp only[hg]at this
       exact this
  obtain⟨O,hO,q2,q1⟩:=hF
  have hbd:=V.bnd _ _ _ hI
  have w1:IntKind.i64.wrap (d+1)=d+1:=Z8b (by omega) (by omega)
  simp only[exA,TvE.F]at q2⊢
  refine ZaB (k:=V.k) follows Z05 hO (V.len s) Tryz.func78 rfl (Z83 _ _) ?_
  repeat' ((conv=>whnf);first|(rw[Z0u])|refine stp ?_|with_reducible apply Z01<;>intro h)
  conv=>whnf
  refine⟨Nat,(λi=>i<=l.length/\(goL V.hE (l.take i) d s).1=true),(λi=>[(0,.rs l.length 4 (exC l)),(1,.int .i64 d),(2,.func (.func V.gE) [] V.cE),(9,.int .i64 l.length),(10,.int .i64 i)]),(λi=>V.Mem (goL V.hE (l.take i) d s).2),(λi=>l.length-i),⟨0,⟨Y0n _,by simp only[Y0q,goL]⟩,?_⟩,?_⟩
  · simp only[Y0q,goL]
    refine FgLK.same rfl ?_ (V.same _)
    refine Y0i (Y03 rfl) ?_
    refine Y0i (Y03 rfl) ?_
    refine Y0i (Wk.func trivial V.wkE) ?_
    refine Y0i (Y0c rfl) ?_
    exact⟨Y0c rfl,trivial⟩
  rintro i ⟨hi,hall⟩
  dsimp only
  conv=>whnf
  rw[Z0u]
  by_cases hlt:i<l.length
  · have e1:decide ((i:Int)<(l.length:Int))=true:=by simpa using hlt
    have hat:=Zn4 (h:=V.hE) l d s i hlt hall
    have hI2:V.I d (goL V.hE (l.take i) d s).2 (sizeL (l.drop i)+m):=V.keepL (l.take i) d s (sizeL (l.drop i)+m) (by
     have:=Z6n l i hlt
     have e:sizeL (l.drop i)=Z0A l[i]+sizeL (l.drop (i+1)):=by rw[Y0y hlt];simp only[sizeL]
     have e2:sizeL (l.take i)+(sizeL (l.drop i)+m)=sizeL l+m:=by omega
     rw[e2];exact hI) hall
    generalize (goL V.hE (l.take i) d s).2=t at *
    have esz:sizeL (l.drop i)+m=(sizeL l[i].kids+(sizeL (l.drop (i+1))+m))+1:=by
     rw[Y0y hlt];simp only[sizeL];have:=Zag l[i];omega
    rw[esz]at hI2
    have q1':=q1 i hlt t _ hI2
    have hd2:=V.downE l[i] d t _ hI2
    have hx3:tk 1 (((exC l).drop (i*4)).drop 3)=some [exA l[i].kids]:=by rw[Zge l i hlt];exact ZlN _ _
    have hn0:n≠0:=by have:=Z1V _ _ (Z0N hlt);have:=Z4J l[i];omega
    have q2':=λt q=>q2 i hlt t q hn0
    rw[Zql]at hat
    have hst:=Zg2 (h:=V.hE) l d s (i+1)
    generalize l[i]=e at *
    generalize hr:V.hE e d t=r at *
    obtain⟨b,t1⟩:=r
    dsimp only at *
    cases b with
    |false =>
     simp only[Y0m,if_false]at hat
     rw[hat]at hst
     rw[hst rfl]
     clear q2 q2' hx3
     repeat' ((conv=>whnf);first|(refine exI q1' ?_)|(rw[Z0u])|(with_reducible refine ixJ i rfl ?_ ?_;focus omega)|refine stp ?_|with_reducible apply Z01<;>intro h)
     all_goals (conv=>whnf)
     all_goals (exact V.fin s t1 false)
    |true =>
     simp only[if_true]at hat
     have q2'':=q2' t1 _ (hd2 rfl)
     generalize hg:goL V.hE e.kids (d+1) t1=g at *
     obtain⟨b2,t2⟩:=g
     dsimp only at *
     simp only[exA]at hx3 q2''
     cases b2 with
     |true =>
      repeat' ((conv=>whnf);first|(refine exI q1' ?_)|(refine exI q2'' ?_)|refine exI hx3 ?_|(rw[Z0u])|(with_reducible refine exW w1 ?_)|(with_reducible refine ixJ i rfl ?_ ?_;focus omega)|refine stp ?_|with_reducible apply Z01<;>intro h)
      all_goals (conv=>whnf)
      refine⟨i+1,⟨hlt,by rw[hat]⟩,by show l.length-(i+1)<l.length-i;omega,?_⟩
      rw[hat]
      refine FgLK.same rfl ?_ (V.same _)
      refine Y0i (Y03 rfl) ?_
      refine Y0i (Y03 rfl) ?_
      refine Y0i (Wk.func trivial V.wkE) ?_
      refine Y0i (Y0c rfl) ?_
      exact⟨Y0c rfl,trivial⟩
     |false =>
      rw[hat]at hst
      rw[hst rfl]
      repeat' ((conv=>whnf);first|(refine exI q1' ?_)|(refine exI q2'' ?_)|refine exI hx3 ?_|(rw[Z0u])|(with_reducible refine exW w1 ?_)|(with_reducible refine ixJ i rfl ?_ ?_;focus omega)|refine stp ?_|with_reducible apply Z01<;>intro h)
      all_goals (conv=>whnf)
      all_goals (exact V.fin s t2 false)
  · have e1:decide ((i:Int)<(l.length:Int))=false:=by simpa using hlt
    have hi2:i=l.length:=by have:=hi;omega
    subst hi2
    rw[List.take_length]at hall⊢
    rw[hall]
    generalize (goL V.hE l d s).2=t at *
    repeat' ((conv=>whnf);first|(rw[Z0u])|refine stp ?_|with_reducible apply Z01<;>intro h)
    all_goals (conv=>whnf)
    all_goals (exact V.fin s t true)
end
end
section
inductive St where
 |mk (kind:Int) (name loc:List UInt8) (order:Int) (exprs:List Ex) (thn els:List St)
instance:Inhabited St:=⟨.mk 0 [] [] 0 [] [] []⟩
def St.kind:St->Int
 | .mk k _ _ _ _ _ _=>k
def St.name:St->List UInt8
 | .mk _ n _ _ _ _ _=>n
def St.loc:St->List UInt8
 | .mk _ _ l _ _ _ _=>l
def St.order:St->Int
 | .mk _ _ _ o _ _ _=>o
def St.exprs:St->List Ex
 | .mk _ _ _ _ x _ _=>x
def St.thn:St->List St
 | .mk _ _ _ _ _ t _=>t
def St.els:St->List St
 | .mk _ _ _ _ _ _ e=>e
mutual
def St.cells:St->List AV
 | .mk k n l o x t e=>[.int .i64 k,.str n,.str l,.int .i64 o,exA x,.rs t.length 7 (stC t),.rs e.length 7 (stC e)]
def stC:List St->List AV
 |[]=>[]
 |s::l=>s.cells++stC l
end
def stA(l:List St):AV:=.rs l.length 7 (stC l)
mutual
def Z12:St->Nat
 | .mk _ _ _ _ x t e=>1+sizeL x+sizeSL t+sizeSL e
def sizeSL:List St->Nat
 |[]=>0
 |s::l=>Z12 s+sizeSL l
end
mutual
def Zds:St->Nat
 | .mk _ _ _ _ x t e=>max (max (deepSL t) (deepSL e)) (deepL x)+1
def deepSL:List St->Nat
 |[]=>0
 |s::l=>max (Zds s) (deepSL l)
end
mutual
def okS:St->Prop
 | .mk _ n l _ x t e=>okN n x.length/\okN l t.length/\e.length<=9223372036854775807/\okL x/\okSL t/\okSL e
def okSL:List St->Prop
 |[]=>True
 |s::l=>okS s/\okSL l
end
theorem Z6x:∀{l:List St},okSL l->∀s∈l,okS s
 |x::l,h,e,he=>by
  simp only[okSL]at h
  rcases Y0o.1 he with rfl|he
  ·exact h.1
  ·exact Z6x h.2 e he
theorem Z6w:∀{s:St},okS s->s.name.length<=9223372036854775807/\s.loc.length<=9223372036854775807/\s.exprs.length<=9223372036854775807/\s.thn.length<=9223372036854775807/\s.els.length<=9223372036854775807/\okL s.exprs/\okSL s.thn/\okSL s.els
 | .mk _ _ _ _ _ _ _,h=>by
  simp only[okS,okN]at h
  simp only[St.name,St.loc,St.exprs,St.thn,St.els]
  exact⟨h.1.1,h.2.1.1,h.1.2,h.2.1.2,h.2.2.1,h.2.2.2⟩
theorem Z3U:∀s:St,s.cells.length=7
 | .mk _ _ _ _ _ _ _=>by simp only[St.cells];rfl
theorem Z4F:∀l:List St,(stC l).length=l.length*7
 |[]=>by simp only[stC];rfl
 |s::l=>by simp only[stC,List.length_append,Z3U,Z4F l,Y0d];omega
theorem Zi9:∀a b:List St,stC (a++b)=stC a++stC b
 |[],b=>by simp only[stC,Y05]
 |e::a,b=>by simp only[stC,Y04,Zi9 a b,List.append_assoc]
theorem Zlc(s:St)(l:List St)(i:Nat):(stC (s::l)).drop ((i+1)*7)=(stC l).drop (i*7):=by
 have h:(i+1)*7=7+i*7:=by omega
 rw[h,<- List.drop_drop,stC,List.drop_left' (Z3U s)]
theorem Z4t:∀(l:List St)(i:Nat)(h:i<l.length),(stC l).drop (i*7)=l[i].cells++stC (l.drop (i+1))
 |s::l,0,h=>by simp only[Nat.zero_mul,List.drop_zero,stC,Y0z,Y0w]
 |s::l,i+1,h=>by rw[Zlc,Z4t l i (by simpa using h)];simp only[Y0A,Y0w]
theorem st7(l:List St)(i:Nat)(h:i<l.length):tk 7 ((stC l).drop (i*7))=some l[i].cells:=by
 rw[Z4t l i h]
 have:=Zi0 l[i].cells (stC (l.drop (i+1)))
 rwa [Z3U]at this
mutual
theorem ZgT:∀(a b:St),a.cells=b.cells->a=b
 | .mk k n l o x t e,.mk k' n' l' o' x' t' e',h=>by
  simp only[St.cells,List.cons.injEq,AV.int.injEq,AV.str.injEq,AV.rs.injEq,true_and,and_true]at h
  obtain⟨rfl,rfl,rfl,rfl,hx,ht,he⟩:=h
  rw[Z9F hx,stC_inj t t' ht.2 ht.1,stC_inj e e' he.2 he.1]
theorem stC_inj:∀(a b:List St),stC a=stC b->a.length=b.length->a=b
 |[],[],_,_=>rfl
 |x::a,y::b,h,hl=>by
  simp only[stC]at h
  have h':=List.append_inj h (by rw[Z3U,Z3U])
  rw[ZgT x y h'.1,stC_inj a b h'.2 (by simpa using hl)]
 |[],_::_,_,hl=>by simp at hl
 |_::_,[],_,hl=>by simp at hl
end
theorem Z7a{a b:List St}(h:stA a=stA b):a=b:=by
 simp only[stA,AV.rs.injEq,true_and]at h
 exact stC_inj _ _ h.2 h.1
theorem Z5k:∀s:St,Z12 s=1+sizeL s.exprs+sizeSL s.thn+sizeSL s.els
 | .mk _ _ _ _ _ _ _=>by simp only[Z12,St.exprs,St.thn,St.els]
theorem Z5n:∀(l:List St)(i:Nat)(h:i<l.length),sizeSL l=sizeSL (l.take i)+Z12 l[i]+sizeSL (l.drop (i+1))
 |s::l,0,h=>by simp only[Y0q,sizeSL,Y0z,Y0w,List.drop_zero];omega
 |s::l,i+1,h=>by
  have:=Z5n l i (by simpa using h)
  simp only[Y0u,sizeSL,Y0A,Y0w];omega
theorem Z5l:∀(l:List St)(s:St),s∈l->Z12 s<=sizeSL l
 |e::l,f,h=>by
  simp only[sizeSL]
  rcases Y0o.1 h with rfl|h
  ·omega
  ·have:=Z5l l f h;omega
theorem Zk6(s:St)(rest:List AV):tk 1 ((s.cells++rest).drop 4)=some [exA s.exprs]:=by
 obtain⟨k,n,l,o,x,t,e⟩:=s
 simp only[St.cells,exA,St.exprs];rfl
theorem Zk7(s:St)(rest:List AV):tk 1 ((s.cells++rest).drop 5)=some [stA s.thn]:=by
 obtain⟨k,n,l,o,x,t,e⟩:=s
 simp only[St.cells,stA,St.thn];rfl
theorem Zk8(s:St)(rest:List AV):tk 1 ((s.cells++rest).drop 6)=some [stA s.els]:=by
 obtain⟨k,n,l,o,x,t,e⟩:=s
 simp only[St.cells,stA,St.els];rfl
end
section
variable {gl:Z0k}
theorem Zr8:∀(a b c vs:List AV),b.length=vs.length->spl (a++(b++c)) a.length vs=some (a++(vs++c))
 |[],[],c,[],_=>by cases c<;>rfl
 |[],x::b,c,v::vs,h=>by
  have:=Zr8 [] b c vs (by simpa using h)
  simp only[Y05,Y0b]at this
  simp only[Y05,Y0b,Y04,spl,this]
 |x::a,b,c,vs,h=>by
  have:=Zr8 a b c vs h
  simp only[Y04,Y0d,spl,this]
 |[],[],c,_::_,h=>by simp at h
 |[],_::_,c,[],h=>by simp at h
def Z8j:AV->Bool
 | .bool _=>true
 | .int _ _=>true
 | .str _=>true
 | .rs _ _ _=>true
 |_=>false
theorem Zm1{H:Z00}{n:Nat}:∀{u:AV},Z8j u=true->frz H (n+1) u=some u
 | .bool _,_=>rfl
 | .int _ _,_=>rfl
 | .str _,_=>rfl
 | .rs _ _ _,_=>rfl
theorem Zdb{H:Z00}{n:Nat}:∀{cs:List AV},cs.all Z8j=true->Z3a (frz H (n+1)) cs=some cs
 |[],_=>rfl
 |c::cs,h=>by
  simp only[List.all_cons,Y0k]at h
  simp only[Z3a,Zm1 h.1,Zdb h.2]
theorem Z0B{H:Z00}{n b f sh len cap z:Nat}{cs:List AV}{ty:TypeId}(hH:H[b]? = some ⟨true,f,sh,.cells cs ty⟩)(hc:cs.length=len*z)(hl:cs.all Z8j=true):frz H (n+2) (.slice b 0 len cap z)=some (.rs len z cs):=by
 cases len with
 |zero =>
  have:cs=[]:=List.eq_nil_of_length_eq_zero (by omega)
  subst this;rfl
 |succ m =>
  have h2:Z3a (frz H (n+1)) cs=some cs:=Zdb hl
  unfold frz
  simp only[hH,List.drop_zero,Z8U hc]
  rw[h2]
def Zm6:AV->Bool
 | .bool _=>true
 | .int _ _=>true
 | .str _=>true
 | .rs _ _ _=>true
 | .nslice=>true
 |_=>false
theorem Zit:∀{u:AV}{acc:List Nat},Zm6 u=true->Z2a u acc=acc
 | .bool _,_,_=>by simp only[Z2a]
 | .int _ _,_,_=>by simp only[Z2a]
 | .str _,_,_=>by simp only[Z2a]
 | .rs _ _ _,_,_=>by simp only[Z2a]
 | .nslice,_,_=>by simp only[Z2a]
theorem Zak:∀{l:List AV}{acc:List Nat},l.all Zm6=true->refsL l acc=acc
 |[],_,_=>by simp only[refsL]
 |c::l,acc,h=>by
  simp only[List.all_cons,Y0k]at h
  simp only[refsL,Zit h.1,Zak h.2]
theorem Zqt:∀{l:List AV},l.all Z8j=true->l.all Zm6=true:=by
 intro l h
 rw[List.all_eq_true]at h⊢
 intro u hu
 have:=h u hu
 cases u<;>simp_all[Z8j,Zm6]
end
section
variable {gl:Z0k}
def Z3J(T:List Tq):Nat->Ps->List Ex×Ps
 |0,s=>([],s)
 |n+1,s=>((Z0D T (Z03 T s [44])).1::(Z3J T n (Z0D T (Z03 T s [44])).2).1,(Z3J T n (Z0D T (Z03 T s [44])).2).2)
theorem ZjK{T:List Tq}:∀(n:Nat){s:Ps},PsOK T s->PsGo T s (Z3J T n s).2
 |0,s,h=>⟨h,Y09 _,Int.le_refl _⟩
 |n+1,s,h=>by
  have h1:=Z0F h [44]
  have h2:=Z2i h1.ok
  exact h1.trans (h2.trans (ZjK n h2.ok))
theorem ZjJ(T:List Tq):∀(n:Nat)(s:Ps),Kp s (Z3J T n s).2
 |0,s=>Kp.rfl'
 |n+1,s=>(Z5u T s [44]).trans ((Zgd T _).trans (ZjJ T n _))
def Z2H(T:List Tq)(name:List UInt8)(kind:Int)(n:Nat)(s:Ps):St×Ps :=
 let s1:=Z03 T s [40]
 let r:=Z3J T n (Z0e T s1)
 let o:=Z0a T (Z03 T r.2 [44]) ordL 1
 (.mk kind name (Z0Z T s1) o.1 r.1 [] [],Z03 T o.2 [41])
theorem Z7H{T:List Tq}{s:Ps}(hs:PsOK T s)(name:List UInt8)(kind:Int)(n:Nat):PsGo T s (Z2H T name kind n s).2:=by
 have h1:=Z0F hs [40]
 have h2:=Z5d h1.ok
 have h3:=ZjK n h2.ok
 have h4:=Z0F h3.ok [44]
 have h5:=Z2s ordL _ 1 h4.ok
 exact h1.trans (h2.trans (h3.trans (h4.trans (h5.trans (Z0F h5.ok _)))))
theorem Zc2(T:List Tq)(s:Ps)(name:List UInt8)(kind:Int)(n:Nat):Kp s (Z2H T name kind n s).2 :=
 (Z5u T s [40]).trans ((ZkZ T _).trans ((ZjJ T n _).trans ((Z5u T _ _).trans ((Zao T ordL _ 1).trans (Z5u T _ _)))))
theorem Z5X:∀l:List Ex,(exC l).all Z8j=true
 |[]=>by simp only[exC];rfl
 | .mk _ _ _ _::l=>by simp only[exC,Ex.cells,List.all_append,Z5X l,Bool.and_true];rfl
theorem Z3G:∀l:List St,(stC l).all Z8j=true
 |[]=>by simp only[stC];rfl
 | .mk _ _ _ _ _ _ _::l=>by simp only[stC,St.cells,List.all_append,Z3G l,Bool.and_true];rfl
theorem Zdc{cs:List AV}(h:cs.all Z8j=true):refsL cs []=[]:=Zak (Zqt h)
theorem Z07{m:List Nat}{cs cs2:List AV}{ty:TypeId}(e:cs=cs2)(h:cs2.all Z8j=true):BodyGe m (.cells cs ty) (.cells cs2 ty):=Y07 (rest:=[]) (by rw[e,Y0e]) (Zdc h)
theorem Ziu(l:List Ex)(o n:Int)(t:List UInt8)(ks:List Ex):exC l++[.int .i64 o,.int .i64 n,.str t,.rs ks.length 4 (exC ks)]=exC (l++[.mk o n t ks]):=by rw[ZjN];simp only[exC,Ex.cells,Y0e]
def exS:List Ex->AV
 |[]=>.nslice
 |e::l=>.slice 3 0 (l.length+1) (l.length+1) 4
def exB:List Ex->Z00
 |[]=>[]
 |e::l=>[⟨true,3,0,.cells (exC (e::l)) 47⟩]
def zS:List AV:=[.int .i64 0,.str [],.str [],.int .i64 0,.nslice,.nslice,.nslice]
def exN:List Ex->AV
 |[]=>.nslice
 |e::l=>exA (e::l)
theorem Zjs{H:Z00}{n:Nat}{k o:Int}{a b:List UInt8}{x x':AV}(h:frz H (n+1) x=some x'):frz H (n+2) (.agg [.int .i64 k,.str a,.str b,.int .i64 o,x,.nslice,.nslice])=some (.agg [.int .i64 k,.str a,.str b,.int .i64 o,x',.nslice,.nslice]):=by
 have e:∀u,frz H (n+2) (.agg u)=match Z3a (frz H (n+1)) u with|some l=>some (.agg l)|none=>none:=λu=>rfl
 rw[e]
 have e2:∀u:AV,lit u=true->frz H (n+1) u=some u:=λu hu=>Zjt hu
 clear e
 simp only[Z3a,h,e2 (.int .i64 k) rfl,e2 (.str a) rfl,e2 (.str b) rfl,e2 (.int .i64 o) rfl,show frz H (n+1) .nslice=some .nslice from rfl]
def stN:List St->AV
 |[]=>.nslice
 |e::l=>stA (e::l)
theorem Zqx{sn:Z0o}{ι : Z0n}{v:Value}:∀{l:List Ex},VR sn ι (exN l) v->VR sn ι (exA l) v
 |[],h=>Z2o h
 |_::_,h=>h
theorem Zft{sn:Z0o}{ι : Z0n}{v:Value}:∀{l:List St},VR sn ι (stN l) v->VR sn ι (stA l) v
 |[],h=>Z2o h
 |_::_,h=>h
theorem Zia{sn:Z0o}{ι : Z0n}{v:Value}{k o:Int}{a b:List UInt8}{x:List Ex}{t e:List St}(h:VR sn ι (.agg [.int .i64 k,.str a,.str b,.int .i64 o,exN x,stN t,stN e]) v):VR sn ι (.agg (St.mk k a b o x t e).cells) v:=by
 obtain⟨d,rfl,d1,l1,f1,a1,d2,l2,rfl,a2,d3,l3,rfl,a3,d4,l4,rfl,a4,d5,l5,rfl,a5,d6,l6,rfl,a6,d7,l7,rfl,a7,h1⟩:=h.agg
 exact Z33 ⟨_,_,f1,a1,_,_,rfl,a2,_,_,rfl,a3,_,_,rfl,a4,_,_,rfl,Zqx a5,_,_,rfl,Zft a6,_,_,rfl,Zft a7,h1⟩
theorem MemQ.conv{k f:Nat}{args:List AV}{H H':Z00}{r r':AV}(h:MemQ Y00 gl k f args H r H')(hr:∀sn ι v,VR sn ι r v->VR sn ι r' v):MemQ Y00 gl k f args H r' H':=λsn ι W cargs hg hR ha =>
 (h sn ι W cargs hg hR ha).mono λe W' ⟨v,sn',ι',e1,e2,e3⟩=>⟨v,sn',ι',e1,hr _ _ _ e2,e3⟩
def ZsC(f:Nat):Bool:=Y01 f 92 || (Y01 f 51 || (Y01 f 91 || Y01 f 121))
structure As where
 l:List Ex
 s:Ps
theorem Zh2{T:List Tq}{s:Ps}(hs:PsOK T s)(name:List UInt8)(kind:Int)(n:Nat)(hn:n<=2):MemQ Y00 gl 1 120 [.ptr 0 0,.str name,.int .i64 kind,.int .i64 n] (psH T s) (.agg (Z2H T name kind n s).1.cells) (psH T (Z2H T name kind n s).2):=by
 obtain⟨O,hO,⟨p1,p2,p3,p4,-⟩,-⟩:=Z25 (P:=Y00) (gl:=gl) [Z5Z T,ZeN T,Ze0 T,ZmS T] [] rfl
 have qn:∀w s X,PsOK T s->Z08 [0] X=true->Z06 Y00 O (psH T s++X) 92 [.ptr 0 0,.str w]=some (.tuple [],psH T (Z03 T s w)++X):=λw s X h hX=>p1 (w,s,X) ⟨h,hX⟩
 have qe:∀s X,PsOK T s->Z08 [0] X=true->Z06 Y00 O (psH T s++X) 51 [.ptr 0 0,.int .i64 0]=some (.agg (Z0D T s).1.cells,psH T (Z0D T s).2++X):=λs X h hX=>p2 ((),s,X) ⟨h,hX⟩
 have qw:∀s X,PsOK T s->Z08 [0] X=true->Z06 Y00 O (psH T s++X) 91 [.ptr 0 0]=some (.str (Z0Z T s),psH T (Z0e T s)++X):=λs X h hX=>p3 ((),s,X) ⟨h,hX⟩
 have qo:∀s X,PsOK T s->Z08 [0] X=true->Z06 Y00 O (psH T s++X) 121 [.ptr 0 0]=some (.int .i64 (Z0a T s ordL 1).1,psH T (Z0a T s ordL 1).2++X):=λs X h hX=>p4 ((),s,X) ⟨h,hX⟩
 clear p1 p2 p3 p4
 have hT:Zcj Y00 45 45=some (47,4,56):=by kernel_rfl
 have h1:=Z5t hs [40]
 have h2:=Z8q h1
 have g1:=λX=>qn [40] s X hs
 have g2:=λX=>qw _ X h1
 clear qw
 unfold Z2H
 simp only
 generalize Z03 T s [40]=s1 at *
 generalize Z0Z T s1=loc at *
 generalize Z0e T s1=s2 at *
 generalize hR:Z3J T n s2=R
 obtain⟨RL,RS⟩:=R
 have hI:([]:List Ex).length<=n/\PsOK T s2/\[]++(Z3J T (n-([]:List Ex).length) s2).1=RL/\(Z3J T (n-([]:List Ex).length) s2).2=RS:=⟨Y0n _,h2,by rw[Y0b,Y0x,hR];rfl,by rw[Y0b,Y0x,hR]⟩
 clear hR
 simp only
 refine MemQ.conv (r:=.agg [.int .i64 kind,.str name,.str loc,.int .i64 (Z0a T (Z03 T RS [44]) ordL 1).1,exN RL,.nslice,.nslice]) ?_ ?_
 · simp only[psH]at g1 g2⊢
   refine Z0V follows Z05 (Z09 follows Z05 hO 3) Tryz.func120 rfl (Z0f (isC:=ZsC) 3) ?_
   repeat' ((conv=>whnf);first|refine exI (g1 _ rfl) ?_|refine exI (g2 _ rfl) ?_|refine stp ?_|with_reducible apply Z01<;>intro h)
   conv=>whnf
   refine⟨As,(λx=>x.l.length<=n/\PsOK T x.s/\x.l++(Z3J T (n-x.l.length) x.s).1=RL/\(Z3J T (n-x.l.length) x.s).2=RS),(λx=>[(0,.ptr 0 0),(1,.str name),(2,.int .i64 kind),(3,.int .i64 n),(8,.ptr 1 0),(9,.ptr 2 0),(10,.int .i64 (x.l.length:Nat))]),
    (λx=>psH T x.s++[⟨true,1,0,.cells zS 58⟩,⟨true,2,0,.cells [.int .i64 kind,.str name,.str loc,.int .i64 0,exS x.l,.nslice,.nslice] 58⟩]++exB x.l),(λx=>n-x.l.length),⟨⟨[],s2⟩,hI,?_⟩,?_⟩
   · refine Y0a [0,1,2] rfl rfl ?_ ⟨hbp,hbp,hbp,trivial⟩ rfl
     exact wks
   clear hI g1 g2
   rintro⟨l,s⟩ ⟨hl,hsk,hL,hS⟩
   dsimp only at hl hsk hL hS
   (try dsimp only)
   by_cases hlt:l.length<n
   · have e1:decide ((l.length:Int)<(n:Int))=true:=by simpa using hlt
     have wa:IntKind.i64.wrap ((l.length:Int)+1)=((l.length+1:Nat):Int):=Z1P (by omega)
     obtain⟨m,hm⟩:∃m,n-l.length=m+1:=⟨n-l.length-1,by omega⟩
     rw[hm]at hL hS
     simp only[Z3J]at hL hS
     have k1:=Z5t hsk [44]
     have k2:=(Z2i k1).ok
     have g1:=λX=>qn [44] s X hsk
     have g2:=λX=>qe _ X k1
     clear qn qe qo
     generalize Z03 T s [44]=s3 at *
     generalize Z0D T s3=r at *
     obtain⟨⟨o,nu,nn,ks⟩,s4⟩:=r
     simp only[psH,Ex.cells]at g1 g2 k2 hL hS⊢
     rcases l with _|⟨a,l⟩
     · simp only[exS,exB]
       repeat' ((conv=>whnf);first|refine exI (g1 _ rfl) ?_|refine exI (g2 _ rfl) ?_|(with_reducible refine exW wa ?_)|(refine apS ?_)|refine stp ?_|with_reducible apply Z01<;>intro h)
       conv=>whnf
       refine⟨⟨[.mk o nu nn ks],s4⟩,⟨hlt,k2,?_,?_⟩,?_,?_⟩
       · show _::_=_
         have e3:n-[Ex.mk o nu nn ks].length=m:=by simp at hm⊢;omega
         rw[e3];exact hL
       · have e3:n-[Ex.mk o nu nn ks].length=m:=by simp at hm⊢;omega
         simp only
         rw[e3];exact hS
       ·simp at hlt⊢;omega
       · refine Y0a [0,1,2,4] rfl rfl ?_ ⟨hbp,hbp,⟨rfl,rfl,rfl,rfl,Y0h ?_⟩,⟨rfl,rfl,rfl,rfl,Z07 rfl (Z5X [.mk o nu nn ks])⟩,trivial⟩ rfl
         ·exact wks
         · dsimp only[exS,Y0b]
           exact wks
     · have hcl:(exC (a::l)).length=(l.length+1)*4:=Z7w _
       have hsn:=Ziu (a::l) o nu nn ks
       simp only[Y0d]at hl hlt wa hm e1
       simp only[exS,exB,Y0d]
       repeat' ((conv=>whnf);first|refine exI (g1 _ rfl) ?_|refine exI (g2 _ rfl) ?_|(with_reducible refine exW wa ?_)|(refine apS ?_)|refine stp ?_|with_reducible apply Z01<;>intro h)
       conv=>whnf
       have e3:n-((a::l)++[Ex.mk o nu nn ks]).length=m:=by simp;omega
       refine⟨⟨(a::l)++[.mk o nu nn ks],s4⟩,⟨by simp;omega,k2,?_,?_⟩,?_,?_⟩
       · simp only
         rw[e3,<- hL];simp
       · simp only
         rw[e3];exact hS
       ·simp;omega
       · refine Y0a [0,1,2,5] rfl rfl ?_ ⟨hbp,hbp,⟨rfl,rfl,rfl,rfl,Y0h ?_⟩,⟨rfl,rfl,rfl,rfl,Z07 hsn (Z5X _)⟩,trivial⟩ rfl
         ·exact wks
         · show WkL _ _ [_,_,_,_,exS ((a::l)++[Ex.mk o nu nn ks]),_,_]
           rw[show exS ((a::l)++[Ex.mk o nu nn ks]) = .slice 3 0 (l.length+1+1) (l.length+1+1) 4 by simp[exS]]
           exact wks
   · have e1:decide ((l.length:Int)<(n:Int))=false:=by simpa using hlt
     have e3:n-l.length=0:=by omega
     rw[e3]at hL hS
     simp only[Z3J,Y0e]at hL hS
     subst hL hS
     have k1:=Z5t hsk [44]
     have k2:=(Z2s ordL _ 1 k1).ok
     have g1:=λX=>qn [44] s X hsk
     have g2:=λX=>qo _ X k1
     have g3:=λX=>qn [41] _ X k2
     clear qn qe qo
     generalize Z03 T s [44]=s3 at *
     generalize Z0a T s3 ordL 1=r at *
     obtain⟨o,s4⟩:=r
     simp only at g3 k2⊢
     generalize Z03 T s4 [41]=s5 at *
     simp only[psH]at g1 g2 g3⊢
     rcases l with _|⟨a,l⟩
     · simp only[exS,exB,exN]
       repeat' ((conv=>whnf);first|refine exI (g1 _ rfl) ?_|refine exI (g2 _ rfl) ?_|refine exI (g3 _ rfl) ?_|refine stp ?_|with_reducible apply Z01<;>intro h)
       conv=>whnf
       exact⟨[],[0],rfl,⟨⟨rfl,rfl,rfl,rfl,Y02 (Y07 (rest:=[]) rfl rfl)⟩,trivial⟩,rfl,rfl,.inl (Y03 rfl)⟩
     · have hcl:(exC (a::l)).length=(l.length+1)*4:=Z7w _
       simp only[exS,exB,exN]
       repeat' ((conv=>whnf);first|refine exI (g1 _ rfl) ?_|refine exI (g2 _ rfl) ?_|refine exI (g3 _ rfl) ?_|refine stp ?_|with_reducible apply Z01<;>intro h)
       conv=>whnf
       exact⟨[3],[0],rfl,⟨⟨rfl,rfl,rfl,rfl,Y02 (Y07 (rest:=[]) rfl rfl)⟩,trivial⟩,rfl,rfl,.inr (Zjs (Z0B (n:=27) rfl hcl (Z5X _)))⟩
 · intro sn ι v h
   exact Zia h
end
section
variable {gl:Z0k}
theorem GX.conv{T:List Tq}{f:Nat}{A:List AV}{s s':Ps}{r r':AV}(h:GX gl T f A s r s')(hr:∀sn ι v,VR sn ι r v->VR sn ι r' v):GX gl T f A s r' s':=λsn ι W cargs hg hR ha =>
 (h sn ι W cargs hg hR ha).mono λe W' h=>h.imp (λ⟨v,sn',ι',e1,e2,e3⟩=>⟨v,sn',ι',e1,hr _ _ _ e2,e3⟩) id
theorem MemXQ.conv{X:AV->Prop}{k f:Nat}{args:List AV}{H H':Z00}{r r':AV}(h:MemXQ Y00 gl X k f args H r H')(hr:∀sn ι v,VR sn ι r v->VR sn ι r' v):MemXQ Y00 gl X k f args H r' H':=λsn ι W cargs hg hR ha =>
 (h sn ι W cargs hg hR ha).mono λe W' h=>h.imp (λ⟨v,sn',ι',e1,e2,e3⟩=>⟨v,sn',ι',e1,hr _ _ _ e2,e3⟩) id
theorem ZbK(T:List Tq):∀(n:Nat)(s:Ps),Kr s (Z3J T n s).2
 |0,s=>Kr.rfl'
 |n+1,s=>(Z0s T s [44]).trans ((Z6M T _).trans (ZbK T n _))
theorem Z7G(T:List Tq)(name:List UInt8)(kind:Int)(n:Nat)(s:Ps):Kr s (Z2H T name kind n s).2 :=
 (Z0s T s [40]).trans ((Z48 T _).trans ((ZbK T n _).trans ((Z0s T _ _).trans ((Z3X T ordL _ 1).trans (Z0s T _ _)))))
section
variable {Y:AV->Prop} {O:Orc} {T:List Tq}
theorem Z87 (p : (Z6G (gl := gl) T).Ask Y O) (hT : TqOK T) {s : Ps} (hs : GOK T s) (w : List UInt8) (hw : kyB w = false) (hk : kwB w = true) (hne : w ≠ []) (hX : ∀ u, XF (Z03 T s w) u -> Y u) {X : Z00} (h : Z08 Z0z X = true) :
  Z06 Y00 O (gL T s.i s.op++X) 81 [.ptr 0 0,.str w]=some (.tuple [],gB T (Z03 T s w)++X):=by
 have e:=Zlj hT hs.ok hs.er hw hk
 have h:=Z4Z p w s X hs ⟨hs.ok,hs.at0,hne⟩ (λu hu=>hX u (by simpa only[e]using hu)) h
 simpa only[e]using h
theorem Zko (p : (Z39 (gl := gl) T).Ask Y O) (hT : TqOK T) {s : Ps} (hs : GOK T s) (w : List UInt8) (hw : kyB w = false) (hk : upB w = true) (hX : ∀ u, XF (Z03 T s w) u -> Y u) {X : Z00} (h : Z08 Z0z X = true) :
  Z06 Y00 O (gL T s.i s.op++X) 84 [.ptr 0 0,.str w]=some (.tuple [],gB T (Z03 T s w)++X):=by
 have e:=Zgh hT hs.ok hs.er hw hk
 have h:=Z4Z p w s X hs ⟨hs.ok,hs.at0⟩ (λu hu=>hX u (by simpa only[e]using hu)) h
 simpa only[e]using h
theorem Zkm (p : (Z4W (gl := gl) T).Ask Y O) (hT : TqOK T) {s : Ps} (hs : GOK T s) (w : List UInt8) (hw : kyB w = false) (hk : upB w = false) (hd : dnB w = true) (hne : w ≠ []) (hX : ∀ u, XF (Z03 T s w) u -> Y u) {X : Z00} (h : Z08 Z0z X = true) :
  Z06 Y00 O (gL T s.i s.op++X) 86 [.ptr 0 0,.str w]=some (.tuple [],gB T (Z03 T s w)++X):=by
 have e:=ZfQ hT hs.ok hs.er hw hk hd
 have h:=Z4Z p w s X hs ⟨hs.ok,hs.at0,hne⟩ (λu hu=>hX u (by simpa only[e]using hu)) h
 simpa only[e]using h
theorem ZqN(p:(Z6F (gl:=gl) T).Ask Y O){s:Ps}(hs:GOK T s)(hX:∀u,XF (Z0e T s) u->Y u){X:Z00}(h:Z08 Z0z X=true) :
 Z06 Y00 O (gL T s.i s.op++X) 80 [.ptr 0 0]=some (.str (Z0Z T s),gB T (Z0e T s)++X):=Z4Z p () s X hs ⟨hs.ok,hs.at0⟩ hX h
theorem Zkn{hT:TqOK T}(p:(Z8E (gl:=gl) T hT).Ask Y O){s:Ps}(hs:GOK T s)(hX:∀u,XF (Z0D T s).2 u->Y u){X:Z00}(h:Z08 Z0z X=true) :
 Z06 Y00 O (gL T s.i s.op++X) 77 [.ptr 0 0,.int .i64 0]=some (.agg (Z0D T s).1.cells,gB T (Z0D T s).2++X):=Z4Z p () s X hs hs hX h
theorem Zkp{hT:TqOK T}(p:(ZbE (gl:=gl) T hT).Ask Y O){s:Ps}(hs:GOK T s)(hX:∀u,XF (Z28 T s).2 u->Y u){X:Z00}(h:Z08 Z0z X=true) :
 Z06 Y00 O (gL T s.i s.op++X) 89 [.ptr 0 0]=some (.agg (Z28 T s).1.cells,gB T (Z28 T s).2++X):=Z4Z p () s X hs hs hX h
theorem Zni{hT:TqOK T}(p:(ZeA (gl:=gl) T hT).Ask Y O){s:Ps}(hs:GOK T s)(hX:∀u,XF (Z0a T s ordL 1).2 u->Y u){X:Z00}(h:Z08 Z0z X=true) :
 Z06 Y00 O (gL T s.i s.op++X) 85 [.ptr 0 0]=some (.int .i64 (Z0a T s ordL 1).1,gB T (Z0a T s ordL 1).2++X):=Z4Z p () s X hs hs hX h
end
def ZbM:List Ex->AV
 |[]=>.nslice
 |e::l=>.slice 13 0 (l.length+1) (l.length+1) 4
def ZjO:List Ex->Z00
 |[]=>[]
 |e::l=>[⟨true,13,0,.cells (exC (e::l)) 47⟩]
def Zsv(f:Nat):Bool:=Y01 f 81 || (Y01 f 77 || (Y01 f 84 || (Y01 f 86 || (Y01 f 80 || Y01 f 85))))
theorem Zhm{T:List Tq}(hT:TqOK T){s:Ps}(hg:GOK T s)(kind:Int)(n:Nat)(hn:n<=2):GX gl T 83 [.ptr 0 0,.int .i64 kind,.int .i64 n] s (.agg (Z2H T [] kind n s).1.cells) (Z2H T [] kind n s).2:=by
 have hTy:Zcj Y00 45 45=some (47,4,56):=by kernel_rfl
 unfold Z2H
 simp only
 have k1:=Z0s T s [40]
 have k2:=Z48 T (Z03 T s [40])
 have k3:=ZbK T n (Z0e T (Z03 T s [40]))
 have k4:=Z0s T (Z3J T n (Z0e T (Z03 T s [40]))).2 [44]
 have k5:=Z3X T ordL (Z03 T (Z3J T n (Z0e T (Z03 T s [40]))).2 [44]) 1
 have k6:=Z0s T (Z0a T (Z03 T (Z3J T n (Z0e T (Z03 T s [40]))).2 [44]) ordL 1).2 [41]
 have o1:=λhe=>hg.go (Z0F hg.ok [40]) k1 he
 generalize hs1:Z03 T s [40]=s1 at *
 generalize hloc:Z0Z T s1=loc at *
 generalize hs2:Z0e T s1=s2 at *
 generalize hR:Z3J T n s2=R at *
 obtain⟨RL,RS⟩:=R
 simp only at k3 k4 k5 k6⊢
 have kE:=k4.trans (k5.trans k6)
 have o2:=λhe1 he=>(o1 he1).go (hs2 ▸ Z5d (o1 he1).ok) k2 he
 refine GX.conv (r:=.agg [.int .i64 kind,.str [],.str loc,.int .i64 (Z0a T (Z03 T RS [44]) ordL 1).1,exN RL,.nslice,.nslice]) ?_ (λ_ _ _ h=>Zia h)
 refine GX.of λh0=>?_
 generalize hE:Z03 T (Z0a T (Z03 T RS [44]) ordL 1).2 [41]=E at *
 obtain⟨O,hO,⟨p1,p2,p3,p4,p5,p6,-⟩,-⟩:=Z2w (P:=Y00) (gl:=gl) (XF E) [Z6G T,Z8E T hT,Z39 T,Z4W T,Z6F T,ZeA T hT] [] rfl
 have q1:∀X,Z08 Z0z X=true->Z06 Y00 O (gL T s.i s.op++X) 84 [.ptr 0 0,.str [40]]=some (.tuple [],gB T s1++X):=λX hX=>by
  have h:=Zko p3 hT hg [40] rfl rfl (X:=X) (by rw[hs1];exact (k2.trans (k3.trans kE)).x) hX
  rwa [hs1]at h
 have q2:GOK T s1->∀X,Z08 Z0z X=true->Z06 Y00 O (gL T s1.i s1.op++X) 80 [.ptr 0 0]=some (.str loc,gB T s2++X):=λh X hX=>by
  have h:=ZqN p5 (s:=s1) h (X:=X) (by rw[hs2];exact (k3.trans kE).x) hX
  rwa [hs2,hloc]at h
 refine Z0w Zsv 3 follows Z05 hO Tryz.func83 rfl ?_
 rw (occs:=.pos [1]) [Z0c h0]
 simp only[gL,LV,Y04,Y05]at q1 q2⊢
 repeat' ((conv=>whnf);first|(exact Or.inl rfl)|(refine Or.inr ?_)|(refine exG (q1 _ rfl) (λhd=>?_) (λe1=>?_))|(refine exG (q2 (o1 e1) _ rfl) (λhd=>?_) (λe2=>?_))|refine stp ?_|with_reducible apply Z01<;>intro h)
 conv=>whnf
 have hI:([]:List Ex).length<=n/\GOK T s2/\[]++(Z3J T (n-([]:List Ex).length) s2).1=RL/\(Z3J T (n-([]:List Ex).length) s2).2=RS:=⟨Y0n _,o2 e1 e2,by rw[Y0b,Y0x,hR];rfl,by rw[Y0b,Y0x,hR]⟩
 refine⟨As,(λx=>x.l.length<=n/\GOK T x.s/\x.l++(Z3J T (n-x.l.length) x.s).1=RL/\(Z3J T (n-x.l.length) x.s).2=RS),(λx=>[(0,.ptr 0 0),(2,.int .i64 n),(6,.ptr 11 0),(7,.ptr 12 0),(15,.int .i64 n),(16,.int .i64 (x.l.length:Nat))]),
  (λx=>gL T x.s.i x.s.op++([⟨true,11,0,.cells zS 58⟩,⟨true,12,0,.cells [.int .i64 kind,.str [],.str loc,.int .i64 0,ZbM x.l,.nslice,.nslice] 58⟩]++ZjO x.l)),(λx=>n-x.l.length),⟨⟨[],s2⟩,hI,?_⟩,?_⟩
 · refine Y0a [0,1,2,3,4,5,6,7,8,9,10,11,12] rfl rfl ?_ ?_ rfl
   ·exact wks
   ·refine Z1o (l:=[11,12]) ?_ ?_ ⟨hbp,hbp,trivial⟩<;>rfl
 clear hI q1 q2 o1 o2 k1 k2 k3 hR hs2 hs1 hloc hg e1 e2
 rintro⟨l,s⟩ ⟨hl,hsk,hL,hS⟩
 dsimp only at hl hsk hL hS
 (try dsimp only)
 by_cases hlt:l.length<n
 · have e1:decide ((l.length:Int)<(n:Int))=true:=by simpa using hlt
   have wa:IntKind.i64.wrap ((l.length:Int)+1)=((l.length+1:Nat):Int):=Z1P (by omega)
   obtain⟨m,hm⟩:∃m,n-l.length=m+1:=⟨n-l.length-1,by omega⟩
   rw[hm]at hL hS
   simp only[Z3J]at hL hS
   have j1:=Z0s T s [44]
   have j2:=Z6M T (Z03 T s [44])
   have j3:=ZbK T m (Z0D T (Z03 T s [44])).2
   rw[hS]at j3
   have g1:=λX hX=>Z87 p1 hT hsk [44] rfl rfl (by decide) ((j2.trans (j3.trans kE)).x) (X:=X) hX
   have g2:=λh X hX=>Zkn p2 (s:=Z03 T s [44]) h ((j3.trans kE).x) (X:=X) hX
   have o1:=λhe=>hsk.go (Z0F hsk.ok [44]) j1 he
   have o2:=λhe1 he=>(o1 he1).go (Z2i (o1 he1).ok) j2 he
   clear p1 p2 p3 p4 p5 p6 j1 j2 j3 kE k4 k5 k6 hE
   generalize Z03 T s [44]=s3 at *
   generalize Z0D T s3=r at *
   obtain⟨⟨o,nu,nn,ks⟩,s4⟩:=r
   simp only[gL,LV,Ex.cells,Y04,Y05]at g1 g2 hL hS o2⊢
   rcases l with _|⟨a,l⟩
   · simp only[ZbM,ZjO]
     repeat' ((conv=>whnf);first|(exact Or.inl rfl)|(refine Or.inr ?_)|(refine exG (g1 _ rfl) (λhd=>?_) (λe1=>?_))|(refine exG (g2 (o1 e1) _ rfl) (λhd=>?_) (λe2=>?_))|(with_reducible refine exW wa ?_)|(refine apS ?_)|refine stp ?_|with_reducible apply Z01<;>intro h)
     conv=>whnf
     refine⟨⟨[.mk o nu nn ks],s4⟩,⟨hlt,o2 e1 e2,?_,?_⟩,?_,?_⟩
     · show _::_=_
       have e3:n-[Ex.mk o nu nn ks].length=m:=by simp at hm⊢;omega
       rw[e3];exact hL
     · have e3:n-[Ex.mk o nu nn ks].length=m:=by simp at hm⊢;omega
       simp only
       rw[e3];exact hS
     ·simp at hlt⊢;omega
     · refine Y0a [0,1,2,3,4,5,6,7,8,9,10,11,12,15] rfl rfl ?_ ?_ rfl
       ·exact wks
       · refine Z1o (l:=[11,12,15]) (X':=[_,_,_]) ?_ ?_ ⟨hbp,⟨rfl,rfl,rfl,rfl,Y0h ?_⟩,⟨rfl,rfl,rfl,rfl,Z07 rfl (Z5X [.mk o nu nn ks])⟩,trivial⟩
         ·rfl
         ·rfl
         · dsimp only[ZbM,Y0b]
           exact wks
   · have hcl:(exC (a::l)).length=(l.length+1)*4:=Z7w _
     have hsn:=Ziu (a::l) o nu nn ks
     simp only[Y0d]at hl hlt wa hm e1
     simp only[ZbM,ZjO,Y0d]
     repeat' ((conv=>whnf);first|(exact Or.inl rfl)|(refine Or.inr ?_)|(refine exG (g1 _ rfl) (λhd=>?_) (λe1=>?_))|(refine exG (g2 (o1 e1) _ rfl) (λhd=>?_) (λe2=>?_))|(with_reducible refine exW wa ?_)|(refine apS ?_)|refine stp ?_|with_reducible apply Z01<;>intro h)
     conv=>whnf
     have e3:n-((a::l)++[Ex.mk o nu nn ks]).length=m:=by simp;omega
     refine⟨⟨(a::l)++[.mk o nu nn ks],s4⟩,⟨by simp;omega,o2 e1 e2,?_,?_⟩,?_,?_⟩
     · simp only
       rw[e3,<- hL];simp
     · simp only
       rw[e3];exact hS
     ·simp;omega
     · refine Y0a [0,1,2,3,4,5,6,7,8,9,10,11,12,16] rfl rfl ?_ ?_ rfl
       ·exact wks
       · refine Z1o (l:=[11,12,16]) (X':=[_,_,_]) ?_ ?_ ⟨hbp,⟨rfl,rfl,rfl,rfl,Y0h ?_⟩,⟨rfl,rfl,rfl,rfl,Z07 hsn (Z5X _)⟩,trivial⟩
         ·rfl
         ·rfl
         · show WkL _ _ [_,_,_,_,ZbM ((a::l)++[Ex.mk o nu nn ks]),_,_]
           rw[show ZbM ((a::l)++[Ex.mk o nu nn ks]) = .slice 13 0 (l.length+1+1) (l.length+1+1) 4 by simp[ZbM]]
           exact wks
 · have e1:decide ((l.length:Int)<(n:Int))=false:=by simpa using hlt
   have e3:n-l.length=0:=by omega
   rw[e3]at hL hS
   simp only[Z3J,Y0e]at hL hS
   subst hL hS
   have g1:=λX hX=>Z87 p1 hT hsk [44] rfl rfl (by decide) ((k5.trans k6).x) (X:=X) hX
   have g2:=λh X hX=>Zni p6 (s:=Z03 T s [44]) h (k6.x) (X:=X) hX
   have g3:GOK T (Z0a T (Z03 T s [44]) ordL 1).2->∀X,Z08 Z0z X=true->Z06 Y00 O (gL T (Z0a T (Z03 T s [44]) ordL 1).2.i (Z0a T (Z03 T s [44]) ordL 1).2.op++X) 86 [.ptr 0 0,.str [41]]=some (.tuple [],gB T E++X):=λh X hX=>by
    have h:=Zkm p4 hT (s:=(Z0a T (Z03 T s [44]) ordL 1).2) h [41] rfl rfl rfl (by decide) (by rw[hE];exact λu hu=>hu) (X:=X) hX
    rwa [hE]at h
   have o1:=λhe=>hsk.go (Z0F hsk.ok [44]) k4 he
   have o2:=λhe1 he=>(o1 he1).go (Z2s ordL _ 1 (o1 he1).ok) k5 he
   clear p1 p2 p3 p4 p5 p6 k4 k5 k6 kE hE
   generalize Z03 T s [44]=s3 at *
   generalize Z0a T s3 ordL 1=r at *
   obtain⟨o,s4⟩:=r
   simp only[gL,LV,Y04,Y05]at g1 g2 g3 o2⊢
   rcases l with _|⟨a,l⟩
   · simp only[ZbM,ZjO,exN]
     repeat' ((conv=>whnf);first|(exact Or.inl rfl)|(refine Or.inr ?_)|(refine exG (g1 _ rfl) (λhd=>?_) (λe1=>?_))|(refine exG (g2 (o1 e1) _ rfl) (λhd=>?_) (λe2=>?_))|(refine exG (g3 (o2 e1 e2) _ rfl) (λhd=>?_) (λe4=>?_))|refine stp ?_|with_reducible apply Z01<;>intro h)
     all_goals (conv=>whnf)
     all_goals exact⟨[],M11,rfl,(by refine Z0G ?_ ?_ ?_<;>first|rfl|exact e4),rfl,rfl,.inl (Y03 rfl)⟩
   · have hcl:(exC (a::l)).length=(l.length+1)*4:=Z7w _
     simp only[ZbM,ZjO,exN]
     repeat' ((conv=>whnf);first|(exact Or.inl rfl)|(refine Or.inr ?_)|(refine exG (g1 _ rfl) (λhd=>?_) (λe1=>?_))|(refine exG (g2 (o1 e1) _ rfl) (λhd=>?_) (λe2=>?_))|(refine exG (g3 (o2 e1 e2) _ rfl) (λhd=>?_) (λe4=>?_))|refine stp ?_|with_reducible apply Z01<;>intro h)
     all_goals (conv=>whnf)
     all_goals exact⟨[13],M11,rfl,(by refine Z0G ?_ ?_ ?_<;>first|rfl|exact e4),rfl,rfl,.inr (Zjs (Z0B (n:=27) rfl hcl (Z5X _)))⟩
end
section
variable {gl:Z0k}
def ZcZ:List UInt8:=[115,116,111,114,101]
def Zd0:List UInt8:=[102,101,110,99,101]
def Z9p:List UInt8:=[97,115,115,117,109,101]
def Z9q:List UInt8:=[97,115,115,101,114,116]
def Z8i:List UInt8:=[108,111,97,100]
def ZkQ:List UInt8:=[99,97,115]
def ZkR:List UInt8:=[97,100,100]
def Za1:List UInt8:=[115,119,97,112]
def Zdf(T:List Tq)(s:Ps):St×Ps :=
 let o:=Z0a T (Z03 T s [40]) ordL 1
 (.mk 7 [] [] o.1 [] [] [],Z03 T o.2 [41])
def Zci(T:List Tq)(k:Int)(s:Ps):St×Ps:=(.mk k [] [] 0 [(Z28 T s).1] [] [],(Z28 T s).2)
def Z3D(T:List Tq)(nm:List UInt8)(s:Ps):St×Ps :=
 if isF T s Z8i=true then Z2H T nm 2 0 (Z02 s)
 else if isF T s ZkQ=true then Z2H T nm 4 2 (Z02 s)
 else if isF T s ZkR=true then Z2H T nm 5 1 (Z02 s)
 else if isF T s Za1=true then Z2H T nm 6 1 (Z02 s)
 else (.mk 1 nm [] 0 [(Z0D T s).1] [] [],(Z0D T s).2)
def Z1w(T:List Tq)(s:Ps):St×Ps :=
 if isF T s ZcZ=true then Z2H T [] 3 1 (Z02 s)
 else if isF T s Zd0=true then Zdf T (Z02 s)
 else if isF T s Z9p=true then Zci T 8 (Z02 s)
 else if isF T s Z9q=true then Zci T 9 (Z02 s)
 else Z3D T (Z0Z T s) (Z03 T (Z0e T s) [61])
theorem Zoy{T:List Tq}{s:Ps}(hs:PsOK T s):PsGo T s (Zdf T s).2:=by
 have h1:=Z0F hs [40]
 have h2:=Z2s ordL _ 1 h1.ok
 exact h1.trans (h2.trans (Z0F h2.ok _))
theorem ZhT{T:List Tq}{s:Ps}(hs:PsOK T s)(nm:List UInt8):PsGo T s (Z3D T nm s).2:=by
 unfold Z3D
 split
 ·rename_i h;exact (Z0b hs h).trans (Z7H (Z0b hs h).ok _ _ _)
 split
 ·rename_i h;exact (Z0b hs h).trans (Z7H (Z0b hs h).ok _ _ _)
 split
 ·rename_i h;exact (Z0b hs h).trans (Z7H (Z0b hs h).ok _ _ _)
 split
 ·rename_i h;exact (Z0b hs h).trans (Z7H (Z0b hs h).ok _ _ _)
 ·exact Z2i hs
theorem Z8v(s:Ps):Kp s (Z02 s):=λh=>h
theorem Znu(T:List Tq)(nm:List UInt8)(s:Ps):Kp s (Z3D T nm s).2:=by
 unfold Z3D
 split
 ·exact (Z8v s).trans (Zc2 T _ _ _ _)
 split
 ·exact (Z8v s).trans (Zc2 T _ _ _ _)
 split
 ·exact (Z8v s).trans (Zc2 T _ _ _ _)
 split
 ·exact (Z8v s).trans (Zc2 T _ _ _ _)
 ·exact Zgd T s
theorem Zfy{T:List Tq}{s:Ps}(hs:PsOK T s):PsGo T s (Z1w T s).2/\((Z1w T s).2.err=0->s.i<(Z1w T s).2.i):=by
 have up:∀{w:List UInt8}{s':Ps},isF T s w=true->PsGo T (Z02 s) s'->PsGo T s s'/\(s'.err=0->s.i<s'.i):=λh h2=>⟨(Z0b hs h).trans h2,λ_=>by have:s.i+1<=_:=h2.on;omega⟩
 unfold Z1w
 split
 ·rename_i h;exact up h (Z7H (Z0b hs h).ok _ _ _)
 split
 ·rename_i h;exact up h (Zoy (Z0b hs h).ok)
 split
 ·rename_i h;exact up h (Z3L (Z0b hs h).ok)
 split
 ·rename_i h;exact up h (Z3L (Z0b hs h).ok)
 · have h1:=Z5d hs
   have h2:=Z0F h1.ok [61]
   have h3:=ZhT h2.ok (Z0Z T s)
   refine⟨h1.trans (h2.trans h3),λhe=>?_⟩
   rcases ZkY T s with h|h
   ·exact absurd he ((Z5u T _ [61]).trans (Znu T _ _) h)
   · have h4:=h2.on
     have h5:=h3.on
     omega
def Znf(T:List Tq):FamM Y00 gl:=Z3g T 109 (by kernel_rfl) (I:=Unit) (λ_ s=>PsOK T s) (λ_=>[.ptr 0 0]) (λ_ s=>.agg (Z28 T s).1.cells) (λ_ s=>(Z28 T s).2) (λ_=>rfl) (λ_ _ _=>rfl) (λ_ s h=>ZqM h)
def ZqQ(T:List Tq):FamM Y00 gl:=Z3g T 120 (by kernel_rfl) (I:=List UInt8×Int×Nat) (λi s=>i.2.2<=2/\PsOK T s) (λi=>[.ptr 0 0,.str i.1,.int .i64 i.2.1,.int .i64 i.2.2]) (λi s=>.agg (Z2H T i.1 i.2.1 i.2.2 s).1.cells) (λi s=>(Z2H T i.1 i.2.1 i.2.2 s).2) (λ_=>rfl) (λi j h=>by
 obtain⟨a,b,c⟩:=i
 obtain⟨a',b',c'⟩:=j
 simp only[List.cons.injEq,AV.str.injEq,AV.int.injEq,true_and,and_true]at h
 obtain⟨rfl,rfl,h⟩:=h
 have:c=c':=by omega
 rw[this]) (λi s h=>Zh2 h.2 i.1 i.2.1 i.2.2 h.1)
def stR:St->AV
 | .mk k a b o x t e=>.agg [.int .i64 k,.str a,.str b,.int .i64 o,exN x,stN t,stN e]
theorem Z8w{k f:Nat}{args:List AV}{H H':Z00}{x:St}(h:MemQ Y00 gl k f args H (stR x) H'):MemQ Y00 gl k f args H (.agg x.cells) H':=MemQ.conv h λsn ι v h=>by
 obtain⟨k,a,b,o,x,t,e⟩:=x
 exact Zia h
theorem Z4e(x:St):∃a b c d e f g m n p,AV.agg x.cells = .agg [.int .i64 a,.str b,.str c,.int .i64 d,.rs e 4 f,.rs g 7 m,.rs n 7 p]:=by
 obtain⟨k,a,b,o,x,t,e⟩:=x
 exact⟨_,_,_,_,_,_,_,_,_,_,rfl⟩
def ZlP(f:Nat):Bool:=Y01 f 45 || (Y01 f 92 || (Y01 f 51 || (Y01 f 91 || (Y01 f 121 || (Y01 f 109 || Y01 f 120)))))
theorem Zii{T:List Tq}{s:Ps}(hs:PsOK T s):MemQ Y00 gl 1 110 [.ptr 0 0] (psH T s) (.agg (Z1w T s).1.cells) (psH T (Z1w T s).2):=by
 obtain⟨O,hO,⟨p1,p2,p3,p4,p5,p6,p7,-⟩,-⟩:=Z25 (P:=Y00) (gl:=gl) [Z77 T,Z5Z T,ZeN T,Ze0 T,ZmS T,Znf T,ZqQ T] [] rfl
 have tk:∀w s X,kwB w=true->isF T s w=true->PsOK T s->Z08 [0] X=true->Z06 Y00 O (psH T s++X) 45 [.ptr 0 0,.str w]=some (.bool true,psH T (Z02 s)++X):=λw s X hw hi h hX=>by
  have this:Z06 Y00 O (psH T s++X) 45 [.ptr 0 0,.str w]=some (.bool (Z0L T s w),psH T (Z0l T s w)++X):=p1 (w,s,X) ⟨h,hX⟩
  rw[(Z1u hw).1,(Z1u hw).2,hi,if_pos rfl]at this
  exact this
 have tn:∀w s X,kwB w=true->isF T s w=false->PsOK T s->Z08 [0] X=true->Z06 Y00 O (psH T s++X) 45 [.ptr 0 0,.str w]=some (.bool false,psH T s++X):=λw s X hw hi h hX=>by
  have this:Z06 Y00 O (psH T s++X) 45 [.ptr 0 0,.str w]=some (.bool (Z0L T s w),psH T (Z0l T s w)++X):=p1 (w,s,X) ⟨h,hX⟩
  rw[(Z1u hw).1,(Z1u hw).2,hi,if_neg (by decide)]at this
  exact this
 have qn:∀w s X,PsOK T s->Z08 [0] X=true->Z06 Y00 O (psH T s++X) 92 [.ptr 0 0,.str w]=some (.tuple [],psH T (Z03 T s w)++X):=λw s X h hX=>p2 (w,s,X) ⟨h,hX⟩
 have qe:∀s X,PsOK T s->Z08 [0] X=true->Z06 Y00 O (psH T s++X) 51 [.ptr 0 0,.int .i64 0]=some (.agg (Z0D T s).1.cells,psH T (Z0D T s).2++X):=λs X h hX=>p3 ((),s,X) ⟨h,hX⟩
 have qw:∀s X,PsOK T s->Z08 [0] X=true->Z06 Y00 O (psH T s++X) 91 [.ptr 0 0]=some (.str (Z0Z T s),psH T (Z0e T s)++X):=λs X h hX=>p4 ((),s,X) ⟨h,hX⟩
 have qo:∀s X,PsOK T s->Z08 [0] X=true->Z06 Y00 O (psH T s++X) 121 [.ptr 0 0]=some (.int .i64 (Z0a T s ordL 1).1,psH T (Z0a T s ordL 1).2++X):=λs X h hX=>p5 ((),s,X) ⟨h,hX⟩
 have qb:∀s X,PsOK T s->Z08 [0] X=true->Z06 Y00 O (psH T s++X) 109 [.ptr 0 0]=some (.agg (Z28 T s).1.cells,psH T (Z28 T s).2++X):=λs X h hX=>p6 ((),s,X) ⟨h,hX⟩
 have qa:∀nm k n s X,n<=2->PsOK T s->Z08 [0] X=true->Z06 Y00 O (psH T s++X) 120 [.ptr 0 0,.str nm,.int .i64 k,.int .i64 (n:Nat)]=some (.agg (Z2H T nm k n s).1.cells,psH T (Z2H T nm k n s).2++X):=λnm k n s X hn h hX=>p7 ((nm,k,n),s,X) ⟨⟨hn,h⟩,hX⟩
 clear p1 p2 p3 p4 p5 p6 p7
 unfold Z1w
 cases h1:isF T s ZcZ with
 |true =>
  rw[if_pos rfl]
  have f0:=λX=>tk ZcZ s X rfl h1 hs
  have ok:=(Z0b hs h1).ok
  have ga:=λX=>qa [] 3 1 _ X (by decide) ok
  clear tk tn qn qe qw qo qb qa
  generalize Z02 s=u1 at *
  generalize Z2H T _ _ _ u1=r at *
  obtain⟨x,u2⟩:=r
  simp only at ga⊢
  obtain⟨y1,y2,y3,y4,y5,y6,y7,y8,y9,y10,hy⟩:=Z4e x
  rw[hy]at ga⊢
  simp only[psH]at f0 ga⊢
  refine Z0V follows Z05 (Z09 follows Z05 hO 3) Y0g rfl (Z0f (isC:=ZlP) 3) ?_
  repeat' ((conv=>whnf);first|refine exI (f0 _ rfl) ?_|refine exI (ga _ rfl) ?_|refine stp ?_|with_reducible apply Z01<;>intro h)
  all_goals (try (conv=>whnf))
  all_goals exact⟨[],[0],rfl,⟨⟨rfl,rfl,rfl,rfl,Y02 (Y07 (rest:=[]) rfl rfl)⟩,trivial⟩,rfl,rfl,.inl (Y03 rfl)⟩
 |false =>
  rw[if_neg (by decide)]
  have f0:=λX=>tn ZcZ s X rfl h1 hs
  cases h2:isF T s Zd0 with
  |true =>
   rw[if_pos rfl]
   have f1:=λX=>tk Zd0 s X rfl h2 hs
   have ok:=(Z0b hs h2).ok
   have ok2:=Z5t ok [40]
   have ok3:=(Z2s ordL _ 1 ok2).ok
   have g1:=λX=>qn [40] _ X ok
   have g2:=λX=>qo _ X ok2
   have g3:=λX=>qn [41] _ X ok3
   clear tk tn qn qe qw qo qb qa
   unfold Zdf
   simp only
   generalize Z02 s=u1 at *
   generalize Z03 T u1 [40]=u2 at *
   generalize Z0a T u2 ordL 1=r at *
   obtain⟨o,u3⟩:=r
   simp only at g2 g3 ok3⊢
   generalize Z03 T u3 [41]=u4 at *
   refine Z8w ?_
   simp only[psH]at f0 f1 g1 g2 g3⊢
   refine Z0V follows Z05 (Z09 follows Z05 hO 3) Y0g rfl (Z0f (isC:=ZlP) 3) ?_
   repeat' ((conv=>whnf);first|refine exI (f0 _ rfl) ?_|refine exI (f1 _ rfl) ?_|refine exI (g1 _ rfl) ?_|refine exI (g2 _ rfl) ?_|refine exI (g3 _ rfl) ?_|refine stp ?_|with_reducible apply Z01<;>intro h)
   all_goals (try (conv=>whnf))
   all_goals exact⟨[],[0],rfl,⟨⟨rfl,rfl,rfl,rfl,Y02 (Y07 (rest:=[]) rfl rfl)⟩,trivial⟩,rfl,rfl,.inl (Y03 rfl)⟩
  |false =>
   rw[if_neg (by decide)]
   have f1:=λX=>tn Zd0 s X rfl h2 hs
   cases h3:isF T s Z9p with
   |true =>
    rw[if_pos rfl]
    have f2:=λX=>tk Z9p s X rfl h3 hs
    have ok:=(Z0b hs h3).ok
    have g1:=λX=>qb _ X ok
    clear tk tn qn qe qw qo qb qa
    unfold Zci
    generalize Z02 s=u1 at *
    generalize Z28 T u1=r at *
    obtain⟨⟨eo,en,et,ek⟩,u2⟩:=r
    simp only at g1⊢
    refine Z8w ?_
    simp only[psH,Ex.cells]at f0 f1 f2 g1⊢
    refine Z0V follows Z05 (Z09 follows Z05 hO 3) Y0g rfl (Z0f (isC:=ZlP) 3) ?_
    repeat' ((conv=>whnf);first|refine exI (f0 _ rfl) ?_|refine exI (f1 _ rfl) ?_|refine exI (f2 _ rfl) ?_|refine exI (g1 _ rfl) ?_|refine stp ?_|with_reducible apply Z01<;>intro h)
    all_goals (try (conv=>whnf))
    all_goals exact⟨[1,2,3,4],[0],rfl,⟨⟨rfl,rfl,rfl,rfl,Y02 (Y07 (rest:=[]) rfl rfl)⟩,trivial⟩,rfl,rfl,.inr rfl⟩
   |false =>
    rw[if_neg (by decide)]
    have f2:=λX=>tn Z9p s X rfl h3 hs
    cases h4:isF T s Z9q with
    |true =>
     rw[if_pos rfl]
     have f3:=λX=>tk Z9q s X rfl h4 hs
     have ok:=(Z0b hs h4).ok
     have g1:=λX=>qb _ X ok
     clear tk tn qn qe qw qo qb qa
     unfold Zci
     generalize Z02 s=u1 at *
     generalize Z28 T u1=r at *
     obtain⟨⟨eo,en,et,ek⟩,u2⟩:=r
     simp only at g1⊢
     refine Z8w ?_
     simp only[psH,Ex.cells]at f0 f1 f2 f3 g1⊢
     refine Z0V follows Z05 (Z09 follows Z05 hO 3) Y0g rfl (Z0f (isC:=ZlP) 3) ?_
     repeat' ((conv=>whnf);first|refine exI (f0 _ rfl) ?_|refine exI (f1 _ rfl) ?_|refine exI (f2 _ rfl) ?_|refine exI (f3 _ rfl) ?_|refine exI (g1 _ rfl) ?_|refine stp ?_|with_reducible apply Z01<;>intro h)
     all_goals (try (conv=>whnf))
     all_goals exact⟨[1,2,3,4],[0],rfl,⟨⟨rfl,rfl,rfl,rfl,Y02 (Y07 (rest:=[]) rfl rfl)⟩,trivial⟩,rfl,rfl,.inr rfl⟩
    |false =>
     rw[if_neg (by decide)]
     have f3:=λX=>tn Z9q s X rfl h4 hs
     have ok1:=Z8q hs
     have ok2:=Z5t ok1 [61]
     have g1:=λX=>qw s X hs
     have g2:=λX=>qn [61] _ X ok1
     generalize Z0Z T s=nm at *
     generalize Z0e T s=v1 at *
     generalize Z03 T v1 [61]=v2 at *
     unfold Z3D
     cases k1:isF T v2 Z8i with
     |true =>
      rw[if_pos rfl]
      have e0:=λX=>tk Z8i v2 X rfl k1 ok2
      have ok:=(Z0b ok2 k1).ok
      have ga:=λX=>qa nm 2 0 _ X (by decide) ok
      clear tk tn qn qe qw qo qb qa
      generalize Z02 v2=u1 at *
      generalize Z2H T _ _ _ u1=r at *
      obtain⟨x,u2⟩:=r
      simp only at ga⊢
      obtain⟨y1,y2,y3,y4,y5,y6,y7,y8,y9,y10,hy⟩:=Z4e x
      rw[hy]at ga⊢
      simp only[psH]at f0 f1 f2 f3 g1 g2 e0 ga⊢
      refine Z0V follows Z05 (Z09 follows Z05 hO 3) Y0g rfl (Z0f (isC:=ZlP) 3) ?_
      repeat' ((conv=>whnf);first|refine exI (f0 _ rfl) ?_|refine exI (f1 _ rfl) ?_|refine exI (f2 _ rfl) ?_|refine exI (f3 _ rfl) ?_|refine exI (g1 _ rfl) ?_|refine exI (g2 _ rfl) ?_|refine exI (e0 _ rfl) ?_|refine exI (ga _ rfl) ?_|refine stp ?_|with_reducible apply Z01<;>intro h)
      all_goals (try (conv=>whnf))
      all_goals exact⟨[],[0],rfl,⟨⟨rfl,rfl,rfl,rfl,Y02 (Y07 (rest:=[]) rfl rfl)⟩,trivial⟩,rfl,rfl,.inl (Y03 rfl)⟩
     |false =>
      rw[if_neg (by decide)]
      have e0:=λX=>tn Z8i v2 X rfl k1 ok2
      cases k2:isF T v2 ZkQ with
      |true =>
       rw[if_pos rfl]
       have e1:=λX=>tk ZkQ v2 X rfl k2 ok2
       have ok:=(Z0b ok2 k2).ok
       have ga:=λX=>qa nm 4 2 _ X (by decide) ok
       clear tk tn qn qe qw qo qb qa
       generalize Z02 v2=u1 at *
       generalize Z2H T _ _ _ u1=r at *
       obtain⟨x,u2⟩:=r
       simp only at ga⊢
       obtain⟨y1,y2,y3,y4,y5,y6,y7,y8,y9,y10,hy⟩:=Z4e x
       rw[hy]at ga⊢
       simp only[psH]at f0 f1 f2 f3 g1 g2 e0 e1 ga⊢
       refine Z0V follows Z05 (Z09 follows Z05 hO 3) Y0g rfl (Z0f (isC:=ZlP) 3) ?_
       repeat' ((conv=>whnf);first|refine exI (f0 _ rfl) ?_|refine exI (f1 _ rfl) ?_|refine exI (f2 _ rfl) ?_|refine exI (f3 _ rfl) ?_|refine exI (g1 _ rfl) ?_|refine exI (g2 _ rfl) ?_|refine exI (e0 _ rfl) ?_|refine exI (e1 _ rfl) ?_|refine exI (ga _ rfl) ?_|refine stp ?_|with_reducible apply Z01<;>intro h)
       all_goals (try (conv=>whnf))
       all_goals exact⟨[],[0],rfl,⟨⟨rfl,rfl,rfl,rfl,Y02 (Y07 (rest:=[]) rfl rfl)⟩,trivial⟩,rfl,rfl,.inl (Y03 rfl)⟩
      |false =>
       rw[if_neg (by decide)]
       have e1:=λX=>tn ZkQ v2 X rfl k2 ok2
       cases k3:isF T v2 ZkR with
       |true =>
        rw[if_pos rfl]
        have e2:=λX=>tk ZkR v2 X rfl k3 ok2
        have ok:=(Z0b ok2 k3).ok
        have ga:=λX=>qa nm 5 1 _ X (by decide) ok
        clear tk tn qn qe qw qo qb qa
        generalize Z02 v2=u1 at *
        generalize Z2H T _ _ _ u1=r at *
        obtain⟨x,u2⟩:=r
        simp only at ga⊢
        obtain⟨y1,y2,y3,y4,y5,y6,y7,y8,y9,y10,hy⟩:=Z4e x
        rw[hy]at ga⊢
        simp only[psH]at f0 f1 f2 f3 g1 g2 e0 e1 e2 ga⊢
        refine Z0V follows Z05 (Z09 follows Z05 hO 3) Y0g rfl (Z0f (isC:=ZlP) 3) ?_
        repeat' ((conv=>whnf);first|refine exI (f0 _ rfl) ?_|refine exI (f1 _ rfl) ?_|refine exI (f2 _ rfl) ?_|refine exI (f3 _ rfl) ?_|refine exI (g1 _ rfl) ?_|refine exI (g2 _ rfl) ?_|refine exI (e0 _ rfl) ?_|refine exI (e1 _ rfl) ?_|refine exI (e2 _ rfl) ?_|refine exI (ga _ rfl) ?_|refine stp ?_|with_reducible apply Z01<;>intro h)
        all_goals (try (conv=>whnf))
        all_goals exact⟨[],[0],rfl,⟨⟨rfl,rfl,rfl,rfl,Y02 (Y07 (rest:=[]) rfl rfl)⟩,trivial⟩,rfl,rfl,.inl (Y03 rfl)⟩
       |false =>
        rw[if_neg (by decide)]
        have e2:=λX=>tn ZkR v2 X rfl k3 ok2
        cases k4:isF T v2 Za1 with
        |true =>
         rw[if_pos rfl]
         have e3:=λX=>tk Za1 v2 X rfl k4 ok2
         have ok:=(Z0b ok2 k4).ok
         have ga:=λX=>qa nm 6 1 _ X (by decide) ok
         clear tk tn qn qe qw qo qb qa
         generalize Z02 v2=u1 at *
         generalize Z2H T _ _ _ u1=r at *
         obtain⟨x,u2⟩:=r
         simp only at ga⊢
         obtain⟨y1,y2,y3,y4,y5,y6,y7,y8,y9,y10,hy⟩:=Z4e x
         rw[hy]at ga⊢
         simp only[psH]at f0 f1 f2 f3 g1 g2 e0 e1 e2 e3 ga⊢
         refine Z0V follows Z05 (Z09 follows Z05 hO 3) Y0g rfl (Z0f (isC:=ZlP) 3) ?_
         repeat' ((conv=>whnf);first|refine exI (f0 _ rfl) ?_|refine exI (f1 _ rfl) ?_|refine exI (f2 _ rfl) ?_|refine exI (f3 _ rfl) ?_|refine exI (g1 _ rfl) ?_|refine exI (g2 _ rfl) ?_|refine exI (e0 _ rfl) ?_|refine exI (e1 _ rfl) ?_|refine exI (e2 _ rfl) ?_|refine exI (e3 _ rfl) ?_|refine exI (ga _ rfl) ?_|refine stp ?_|with_reducible apply Z01<;>intro h)
         all_goals (try (conv=>whnf))
         all_goals exact⟨[],[0],rfl,⟨⟨rfl,rfl,rfl,rfl,Y02 (Y07 (rest:=[]) rfl rfl)⟩,trivial⟩,rfl,rfl,.inl (Y03 rfl)⟩
        |false =>
         rw[if_neg (by decide)]
         have e3:=λX=>tn Za1 v2 X rfl k4 ok2
         have g3:=λX=>qe _ X ok2
         clear tk tn qn qe qw qo qb qa
         generalize Z0D T v2=r at *
         obtain⟨⟨eo,en,et,ek⟩,u2⟩:=r
         simp only at g3⊢
         refine Z8w ?_
         simp only[psH,Ex.cells]at f0 f1 f2 f3 g1 g2 e0 e1 e2 e3 g3⊢
         refine Z0V follows Z05 (Z09 follows Z05 hO 3) Y0g rfl (Z0f (isC:=ZlP) 3) ?_
         repeat' ((conv=>whnf);first|refine exI (f0 _ rfl) ?_|refine exI (f1 _ rfl) ?_|refine exI (f2 _ rfl) ?_|refine exI (f3 _ rfl) ?_|refine exI (g1 _ rfl) ?_|refine exI (g2 _ rfl) ?_|refine exI (e0 _ rfl) ?_|refine exI (e1 _ rfl) ?_|refine exI (e2 _ rfl) ?_|refine exI (e3 _ rfl) ?_|refine exI (g3 _ rfl) ?_|refine stp ?_|with_reducible apply Z01<;>intro h)
         all_goals (try (conv=>whnf))
         all_goals exact⟨[1,2,3,4],[0],rfl,⟨⟨rfl,rfl,rfl,rfl,Y02 (Y07 (rest:=[]) rfl rfl)⟩,trivial⟩,rfl,rfl,.inr rfl⟩
end
section
variable {gl:Z0k}
def Z20(T:List Tq)(stm:Ps->St×Ps)(w:List UInt8):Nat->Ps->List St×Ps
 |0,s=>([],s)
 |k+1,s=>if s.err=0/\isF T s w=false/\(Z0r T s).kind≠5 then ((stm s).1::(Z20 T stm w k (stm s).2).1,(Z20 T stm w k (stm s).2).2) else ([],s)
def Z9M(T:List Tq)(stm:Ps->St×Ps)(s:Ps):List St×Ps :=
 ((Z20 T stm [125] (T.length+1) (Z03 T s [123])).1,Z03 T (Z20 T stm [125] (T.length+1) (Z03 T s [123])).2 [125])
def ZpB(gl:Z0k)(T:List Tq)(i0:Nat)(stm:Ps->St×Ps):Prop:=∀s,PsOK T s->i0<=s.i->(PsGo T s (stm s).2/\((stm s).2.err=0->s.i<(stm s).2.i))/\MemQ Y00 gl 1 93 [.ptr 0 0] (psH T s) (.agg (stm s).1.cells) (psH T (stm s).2)
theorem stsF_go{T:List Tq}{i0:Nat}{stm:Ps->St×Ps}(hstm:∀s,PsOK T s->i0<=s.i->PsGo T s (stm s).2)(w:List UInt8):∀(k:Nat)(s:Ps),PsOK T s->i0<=s.i->PsGo T s (Z20 T stm w k s).2
 |0,s,h,hi=>⟨h,Y09 _,Int.le_refl _⟩
 |k+1,s,h,hi=>by
  unfold Z20
  split
  · have h1:=hstm s h hi
    exact h1.trans (stsF_go hstm w k _ h1.ok (Y06 hi h1.on))
  ·exact⟨h,Y09 _,Int.le_refl _⟩
theorem Z6f{T:List Tq}{stm:Ps->St×Ps}{w:List UInt8}{s:Ps}(h:¬(s.err=0/\isF T s w=false/\(Z0r T s).kind≠5)):∀k,Z20 T stm w k s=([],s)
 |0=>rfl
 |k+1=>by unfold Z20;rw[if_neg h]
theorem Zen(l:List St)(k o:Int)(a b:List UInt8)(x:List Ex)(t e:List St):stC l++[.int .i64 k,.str a,.str b,.int .i64 o,.rs x.length 4 (exC x),.rs t.length 7 (stC t),.rs e.length 7 (stC e)]=stC (l++[.mk k a b o x t e]):=by rw[Zi9];simp only[stC,St.cells,exA,Y0e]
def stS:List St->AV
 |[]=>.nslice
 |e::l=>.slice 1 0 (l.length+1) (l.length+1) 7
def ZqU:List St->Z00
 |[]=>[]
 |e::l=>[⟨true,1,0,.cells (stC (e::l)) 58⟩]
def Zsl(f:Nat):Bool:=Y01 f 90 || Y01 f 93
structure Bs4 where
 l:List St
 s:Ps
 k:Nat
theorem Zfs {T : List Tq} {i0 : Nat} {stm : Ps -> St × Ps} (hstm : ZpB gl T i0 stm) {s0 : Ps} (hs0 : PsOK T s0) (hi0 : i0 <= s0.i) (w : List UInt8) :
  MemQ Y00 gl 1 50 [.ptr 0 0,.str w] (psH T s0) (stA (Z20 T stm w (T.length+1) s0).1) (psH T (Z20 T stm w (T.length+1) s0).2):=by
 obtain⟨O,hO,⟨p1,p2,-⟩,-⟩:=Z25 (P:=Y00) (gl:=gl) [Zoc T,Z3g T 93 (by kernel_rfl) (I:=Unit) (λ_ s=>PsOK T s/\i0<=s.i) (λ_=>[.ptr 0 0]) (λ_ s=>.agg (stm s).1.cells) (λ_ s=>(stm s).2) (λ_=>rfl) (λ_ _ _=>rfl) (λ_ s h=>(hstm s h.1 h.2).2)] [] rfl
 have q1:∀w s X,PsOK T s->Z08 [0] X=true->Z06 Y00 O (psH T s++X) 90 [.ptr 0 0,.str w]=some (.bool (isF T s w),psH T s++X):=λw s X h hX=>p1 (w,s,X) ⟨h,hX⟩
 have q2:∀s X,PsOK T s->i0<=s.i->Z08 [0] X=true->Z06 Y00 O (psH T s++X) 93 [.ptr 0 0]=some (.agg (stm s).1.cells,psH T (stm s).2++X):=λs X h hi hX=>p2 ((),s,X) ⟨⟨h,hi⟩,hX⟩
 clear p1 p2
 have hT:Zcj Y00 53 53=some (58,7,120):=by kernel_rfl
 have hgo:∀s,PsOK T s->i0<=s.i->PsGo T s (stm s).2/\((stm s).2.err=0->s.i<(stm s).2.i):=λs h hi=>(hstm s h hi).1
 clear hstm
 generalize hR:Z20 T stm w (T.length+1) s0=R
 obtain⟨RL,RS⟩:=R
 have hfew:=hs0.few
 have hI:PsOK T s0/\i0<=s0.i/\([]:List St).length+(T.length+1)<=T.length+1/\(s0.err=0->T.length-s0.i<T.length+1)/\[]++(Z20 T stm w (T.length+1) s0).1=RL/\(Z20 T stm w (T.length+1) s0).2=RS:=⟨hs0,hi0,by simp,λ_=>by omega,by rw[hR];rfl,by rw[hR]⟩
 clear hR
 simp only
 refine MemQ.conv (r:=stN RL) ?_ (λ_ _ _ h=>Zft h)
 simp only[psH]
 refine Z0V follows Z05 (Z09 follows Z05 hO 3) Tryz.func50 rfl (Z0f (isC:=Zsl) 3) ?_
 repeat' ((conv=>whnf);first|refine stp ?_|with_reducible apply Z01<;>intro h)
 conv=>whnf
 refine⟨Bs4,(λy=>PsOK T y.s/\i0<=y.s.i/\y.l.length+y.k<=T.length+1/\(y.s.err=0->T.length-y.s.i<y.k)/\y.l++(Z20 T stm w y.k y.s).1=RL/\(Z20 T stm w y.k y.s).2=RS),(λy=>[(0,.ptr 0 0),(1,.str w),(5,stS y.l)]),
  (λy=>psH T y.s++ZqU y.l),(λy=>y.k),⟨⟨[],s0,T.length+1⟩,hI,?_⟩,?_⟩
 · refine Y0a [0] rfl rfl ?_ ⟨hbp,trivial⟩ rfl
   exact wks
 clear hI hs0 hi0
 rintro⟨l,s,k⟩ ⟨hs,hi,hlk,hk,hL,hS⟩
 dsimp only at hs hi hlk hk hL hS
 (try dsimp only)
 have hx:=tq4 T s.i hs.lt
 rw[<- Z0t hs.lt]at hx
 have hlt:=hs.lt
 have gi:=λX=>q1 w s X hs
 have gs:=λX=>q2 s X hs hi
 clear q1 q2
 by_cases hc:s.err=0/\isF T s w=false/\(Z0r T s).kind≠5
 · obtain⟨k,rfl⟩:∃k',k=k'+1:=⟨k-1,by have:=hk hc.1;omega⟩
   have hg:=hgo s hs hi
   unfold Z20 at hL hS
   rw[if_pos hc]at hL hS
   obtain⟨c1,c2,c3⟩:=hc
   have e3:((Z0r T s).kind != 5)=true:=by simpa using c3
   rw[c2]at gi
   have hk:=hk c1
   generalize Z0r T s=t at *
   obtain⟨tk_,tx,tn_,tp⟩:=t
   generalize stm s=r at *
   obtain⟨⟨y1,y2,y3,y4,y5,y6,y7⟩,⟨i2,er2,a2,p2⟩⟩:=r
   obtain⟨i,err,at_,op⟩:=s
   simp only at c1
   subst c1
   simp only[psH,Tq.cells,St.cells,exA]at gi gs hx hlt hg hL hS e3 hk⊢
   clear c2 c3 hgo
   rcases l with _|⟨a,l⟩
   · simp only[stS,ZqU,Y0e]
     repeat' ((conv=>whnf);first|refine exI hx ?_|refine exI (gi [] rfl) ?_|refine exI (gs _ rfl) ?_|(with_reducible refine ixJ i rfl ?_ ?_;focus omega)|(refine apS ?_)|refine stp ?_|with_reducible apply Z01<;>intro h)
     conv=>whnf
     refine⟨⟨[.mk y1 y2 y3 y4 y5 y6 y7],⟨i2,er2,a2,p2⟩,k⟩,⟨hg.1.ok,Y06 hi hg.1.on,by simp at hlk⊢;omega,λhe=>by have:=hg.2 he;simp only at this⊢;omega,by simpa using hL,hS⟩,Y0p _,?_⟩
     (refine Y0a [0,3] rfl rfl ?_ ⟨hbp,⟨rfl,rfl,rfl,rfl,Z07 rfl (Z3G [.mk y1 y2 y3 y4 y5 y6 y7])⟩,trivial⟩ rfl;(focus (dsimp only[stS,Y0b];(repeat (first|exact trivial|refine stw ?_));done)))
   · have hcl:(stC (a::l)).length=(l.length+1)*7:=Z4F _
     have hsn:=Zen (a::l) y1 y4 y2 y3 y5 y6 y7
     simp only[Y0d]at hlk
     simp only[stS,ZqU]
     repeat' ((conv=>whnf);first|refine exI hx ?_|refine exI (gi [_] rfl) ?_|refine exI (gs _ rfl) ?_|(with_reducible refine ixJ i rfl ?_ ?_;focus omega)|(refine apS ?_)|refine stp ?_|with_reducible apply Z01<;>intro h)
     conv=>whnf
     have hl1:(l++[St.mk y1 y2 y3 y4 y5 y6 y7]).length=l.length+1:=by simp
     refine⟨⟨a::(l++[.mk y1 y2 y3 y4 y5 y6 y7]),⟨i2,er2,a2,p2⟩,k⟩,⟨hg.1.ok,Y06 hi hg.1.on,by simp only[Y0d,hl1];omega,λhe=>by have:=hg.2 he;simp only at this⊢;omega,by rw[<- hL];simp,hS⟩,Y0p _,?_⟩
     (refine Y0a [0,4] rfl rfl ?_ ⟨hbp,⟨rfl,rfl,rfl,rfl,Z07 hsn (Z3G _)⟩,trivial⟩ rfl;(focus (dsimp only[stS,Y0b];(repeat (first|exact trivial|refine stw ?_));done)))
 · have hE:=Z6f (stm:=stm) hc k
   rw[hE]at hL hS
   simp only[Y0e]at hL hS
   subst hL hS
   clear hE hgo gs hk
   generalize isF T s w=b at *
   generalize Z0r T s=t at *
   obtain⟨tk_,tx,tn_,tp⟩:=t
   obtain⟨i,err,at_,op⟩:=s
   simp only[psH,Tq.cells]at gi hx hlt hc⊢
   have hcl:(stC l).length=l.length*7:=Z4F _
   by_cases he:err=0
   case' neg=>have e1:(err==0)=false:=by simpa using he
   case' pos =>
    subst he
    cases b
    case' false=>have e3:(tk_ != 5)=false:=by simp at hc⊢;exact hc
   all_goals rcases l with _|⟨a,l⟩
   all_goals simp only[stS,ZqU,stN]
   all_goals repeat' ((conv=>whnf);first|refine exI hx ?_|refine exI (gi [] rfl) ?_|refine exI (gi [_] rfl) ?_|(with_reducible refine ixJ i rfl ?_ ?_;focus omega)|refine stp ?_|with_reducible apply Z01<;>intro h)
   all_goals (conv=>whnf)
   all_goals first
    |exact⟨[],[0],rfl,⟨⟨rfl,rfl,rfl,rfl,Y02 (Y07 (rest:=[]) rfl rfl)⟩,trivial⟩,rfl,rfl,.inl (Y03 rfl)⟩
    |exact⟨[1],[0],rfl,⟨⟨rfl,rfl,rfl,rfl,Y02 (Y07 (rest:=[]) rfl rfl)⟩,trivial⟩,rfl,rfl,.inr (Z0B (n:=28) rfl hcl (Z3G _))⟩
end
section
variable {gl:Z0k}
theorem Zke{T:List Tq}{i0:Nat}{stm:Ps->St×Ps}(hstm:∀s,PsOK T s->i0<=s.i->PsGo T s (stm s).2){s:Ps}(hs:PsOK T s)(hi:i0<=s.i):PsGo T s (Z9M T stm s).2:=by
 have h1:=Z0F hs [123]
 have h2:=stsF_go hstm [125] (T.length+1) _ h1.ok (Y06 hi h1.on)
 exact h1.trans (h2.trans (Z0F h2.ok _))
def ZsA(f:Nat):Bool:=Y01 f 92 || Y01 f 50
def ZrI(gl:Z0k)(T:List Tq)(i0:Nat)(blk:Ps->List St×Ps):Prop:=∀s,PsOK T s->i0<=s.i->PsGo T s (blk s).2/\MemQ Y00 gl 1 47 [.ptr 0 0] (psH T s) (stA (blk s).1) (psH T (blk s).2)
theorem ZcK{T:List Tq}{i0:Nat}{stm:Ps->St×Ps}(hstm:ZpB gl T i0 stm):ZrI gl T i0 (Z9M T stm):=by
 intro s hs hi
 refine⟨Zke (λs h h2=>(hstm s h h2).1.1) hs hi,?_⟩
 obtain⟨O,hO,⟨p1,p2,-⟩,-⟩:=Z25 (P:=Y00) (gl:=gl) [Z5Z T,Z3g T 50 (by kernel_rfl) (I:=List UInt8) (λ_ s=>PsOK T s/\i0<=s.i) (λw=>[.ptr 0 0,.str w]) (λw s=>stA (Z20 T stm w (T.length+1) s).1) (λw s=>(Z20 T stm w (T.length+1) s).2) (λ_=>rfl) (λi j h=>by simpa using h) (λw s h=>Zfs hstm h.1 h.2 w)] [] rfl
 have qn:∀w s X,PsOK T s->Z08 [0] X=true->Z06 Y00 O (psH T s++X) 92 [.ptr 0 0,.str w]=some (.tuple [],psH T (Z03 T s w)++X):=λw s X h hX=>p1 (w,s,X) ⟨h,hX⟩
 have qs:∀w s X,PsOK T s->i0<=s.i->Z08 [0] X=true->Z06 Y00 O (psH T s++X) 50 [.ptr 0 0,.str w]=some (stA (Z20 T stm w (T.length+1) s).1,psH T (Z20 T stm w (T.length+1) s).2++X):=λw s X h hi hX=>p2 (w,s,X) ⟨⟨h,hi⟩,hX⟩
 clear p1 p2
 have h1:=Z0F hs [123]
 have hi1:=Y06 hi h1.on
 have h2:=(stsF_go (λs h h2=>(hstm s h h2).1.1) [125] (T.length+1) _ h1.ok hi1).ok
 have h1:=h1.ok
 have g1:=λX=>qn [123] s X hs
 have g2:=λX=>qs [125] _ X h1 hi1
 have g3:=λX=>qn [125] _ X h2
 clear qn qs hstm
 unfold Z9M
 generalize Z03 T s [123]=s1 at *
 generalize Z20 T stm [125] (T.length+1) s1=r at *
 obtain⟨l,s2⟩:=r
 simp only at g3 h2⊢
 generalize Z03 T s2 [125]=s3 at *
 simp only[psH,stA]at g1 g2 g3⊢
 refine Z1c ZsA 3 follows Z05 hO Tryz.func47 rfl ?_
 repeat' ((conv=>whnf);first|refine exI (g1 _ rfl) ?_|refine exI (g2 _ rfl) ?_|refine exI (g3 _ rfl) ?_|refine stp ?_|with_reducible apply Z01<;>intro h)
 all_goals (try (conv=>whnf))
 all_goals exact⟨[0],rfl,⟨hbp,trivial⟩,rfl,Y03 rfl⟩
def kIf:List UInt8:=[105,102]
def Zex:List UInt8:=[101,108,115,101]
def Z6E:List UInt8:=[119,104,105,108,101]
def Z9Z(T:List Tq)(blk:Ps->List St×Ps)(stm:Ps->St×Ps)(s:Ps):List St×Ps :=
 if isF T s Zex=true then (if isF T (Z02 s) kIf=true then ([(stm (Z02 s)).1],(stm (Z02 s)).2) else blk (Z02 s)) else ([],s)
def Zch(T:List Tq)(blk:Ps->List St×Ps)(stm:Ps->St×Ps)(s:Ps):St×Ps :=
 (.mk 10 [] [] 0 [(Z28 T s).1] (blk (Z28 T s).2).1 (Z9Z T blk stm (blk (Z28 T s).2).2).1,(Z9Z T blk stm (blk (Z28 T s).2).2).2)
def Zl2(T:List Tq)(blk:Ps->List St×Ps)(s:Ps):St×Ps :=
 (.mk 11 [] [] 0 [(Z28 T s).1] (blk (Z28 T s).2).1 [],(blk (Z28 T s).2).2)
def Z3n(T:List Tq)(blk:Ps->List St×Ps)(stm:Ps->St×Ps)(s:Ps):St×Ps :=
 if isF T s kIf=true then Zch T blk stm (Z02 s)
 else if isF T s Z6E=true then Zl2 T blk (Z02 s)
 else ((Z1w T s).1,Z03 T (Z1w T s).2 [59])
theorem ZoM{T:List Tq}{i0:Nat}{blk:Ps->List St×Ps}{stm:Ps->St×Ps}(hblk:∀s,PsOK T s->i0<=s.i->PsGo T s (blk s).2)(hstm:∀s,PsOK T s->i0<=s.i->PsGo T s (stm s).2){s:Ps}(hs:PsOK T s)(hi:i0<=s.i):PsGo T s (Z9Z T blk stm s).2:=by
 unfold Z9Z
 split
 · rename_i h
   have h1:=Z0b hs h
   have h2:=Y06 hi h1.on
   split
   ·exact h1.trans (hstm _ h1.ok h2)
   ·exact h1.trans (hblk _ h1.ok h2)
 ·exact⟨hs,Y09 _,Int.le_refl _⟩
theorem ZnH{T:List Tq}{blk:Ps->List St×Ps}{stm:Ps->St×Ps}{s:Ps}(hblk:∀t,PsOK T t->s.i+1<=t.i->PsGo T t (blk t).2)(hstm:∀t,PsOK T t->s.i+1<=t.i->PsGo T t (stm t).2)(hs:PsOK T s):PsGo T s (Z3n T blk stm s).2/\((Z3n T blk stm s).2.err=0->s.i<(Z3n T blk stm s).2.i):=by
 have up:∀{w:List UInt8}{s':Ps},isF T s w=true->PsGo T (Z02 s) s'->PsGo T s s'/\(s'.err=0->s.i<s'.i):=λh h2=>⟨(Z0b hs h).trans h2,λ_=>by have:s.i+1<=_:=h2.on;omega⟩
 unfold Z3n
 split
 · rename_i h
   have h0:=(Z0b hs h).ok
   have h1:=Z3L h0
   have i1:s.i+1<=_:=h1.on
   have h2:=hblk _ h1.ok i1
   have i2:=Y06 i1 h2.on
   exact up h (h1.trans (h2.trans (ZoM hblk hstm h2.ok i2)))
 split
 · rename_i h
   have h0:=(Z0b hs h).ok
   have h1:=Z3L h0
   have i1:s.i+1<=_:=h1.on
   exact up h (h1.trans (hblk _ h1.ok i1))
 · have h1:=Zfy hs
   have h2:=Z0F h1.1.ok [59]
   refine⟨h1.1.trans h2,λhe=>?_⟩
   by_cases h3:(Z1w T s).2.err=0
   ·exact Nat.lt_of_lt_of_le (h1.2 h3) h2.on
   ·exact absurd he (Z5u T _ _ h3)
theorem Z8Y{sn:Z0o}{ι : Z0n}{v:Value}{k o:Int}{a b:List UInt8}{x:List Ex}{t e:List St}{xa ta ea:AV}(hx:∀v,VR sn ι xa v->VR sn ι (exA x) v)(ht:∀v,VR sn ι ta v->VR sn ι (stA t) v)(he:∀v,VR sn ι ea v->VR sn ι (stA e) v)(h:VR sn ι (.agg [.int .i64 k,.str a,.str b,.int .i64 o,xa,ta,ea]) v):VR sn ι (.agg (St.mk k a b o x t e).cells) v:=by
 obtain⟨d,rfl,d1,l1,f1,a1,d2,l2,rfl,a2,d3,l3,rfl,a3,d4,l4,rfl,a4,d5,l5,rfl,a5,d6,l6,rfl,a6,d7,l7,rfl,a7,h1⟩:=h.agg
 exact Z33 ⟨_,_,f1,a1,_,_,rfl,a2,_,_,rfl,a3,_,_,rfl,a4,_,_,rfl,hx _ a5,_,_,rfl,ht _ a6,_,_,rfl,he _ a7,h1⟩
def Zqf(f:Nat):Bool:=Y01 f 45 || (Y01 f 90 || (Y01 f 92 || (Y01 f 109 || (Y01 f 110 || (Y01 f 47 || Y01 f 93)))))
theorem Zi7{T:List Tq}{blk:Ps->List St×Ps}{stm:Ps->St×Ps}{s:Ps}(hblk:ZrI gl T (s.i+1) blk)(hstm:ZpB gl T (s.i+1) stm)(hs:PsOK T s):MemQ Y00 gl 1 93 [.ptr 0 0] (psH T s) (.agg (Z3n T blk stm s).1.cells) (psH T (Z3n T blk stm s).2):=by
 obtain⟨O,hO,⟨p1,p2,p3,p4,p5,p6,p7,-⟩,-⟩:=Z25 (P:=Y00) (gl:=gl) [Z77 T,Z5Z T,Zoc T,Znf T,
  Z3g T 110 (by kernel_rfl) (I:=Unit) (λ_ s=>PsOK T s) (λ_=>[.ptr 0 0]) (λ_ s=>.agg (Z1w T s).1.cells) (λ_ s=>(Z1w T s).2) (λ_=>rfl) (λ_ _ _=>rfl) (λ_ s h=>Zii h),
  Z3g T 47 (by kernel_rfl) (I:=Unit) (λ_ t=>PsOK T t/\s.i+1<=t.i) (λ_=>[.ptr 0 0]) (λ_ t=>stA (blk t).1) (λ_ t=>(blk t).2) (λ_=>rfl) (λ_ _ _=>rfl) (λ_ t h=>(hblk t h.1 h.2).2),
  Z3g T 93 (by kernel_rfl) (I:=Unit) (λ_ t=>PsOK T t/\s.i+1<=t.i) (λ_=>[.ptr 0 0]) (λ_ t=>.agg (stm t).1.cells) (λ_ t=>(stm t).2) (λ_=>rfl) (λ_ _ _=>rfl) (λ_ t h=>(hstm t h.1 h.2).2)] [] rfl
 have tk:∀w s X,kwB w=true->isF T s w=true->PsOK T s->Z08 [0] X=true->Z06 Y00 O (psH T s++X) 45 [.ptr 0 0,.str w]=some (.bool true,psH T (Z02 s)++X):=λw s X hw hi h hX=>by
  have this:Z06 Y00 O (psH T s++X) 45 [.ptr 0 0,.str w]=some (.bool (Z0L T s w),psH T (Z0l T s w)++X):=p1 (w,s,X) ⟨h,hX⟩
  rw[(Z1u hw).1,(Z1u hw).2,hi,if_pos rfl]at this
  exact this
 have tn:∀w s X,kwB w=true->isF T s w=false->PsOK T s->Z08 [0] X=true->Z06 Y00 O (psH T s++X) 45 [.ptr 0 0,.str w]=some (.bool false,psH T s++X):=λw s X hw hi h hX=>by
  have this:Z06 Y00 O (psH T s++X) 45 [.ptr 0 0,.str w]=some (.bool (Z0L T s w),psH T (Z0l T s w)++X):=p1 (w,s,X) ⟨h,hX⟩
  rw[(Z1u hw).1,(Z1u hw).2,hi,if_neg (by decide)]at this
  exact this
 have qn:∀w s X,PsOK T s->Z08 [0] X=true->Z06 Y00 O (psH T s++X) 92 [.ptr 0 0,.str w]=some (.tuple [],psH T (Z03 T s w)++X):=λw s X h hX=>p2 (w,s,X) ⟨h,hX⟩
 have qi:∀w s X,PsOK T s->Z08 [0] X=true->Z06 Y00 O (psH T s++X) 90 [.ptr 0 0,.str w]=some (.bool (isF T s w),psH T s++X):=λw s X h hX=>p3 (w,s,X) ⟨h,hX⟩
 have qb:∀s X,PsOK T s->Z08 [0] X=true->Z06 Y00 O (psH T s++X) 109 [.ptr 0 0]=some (.agg (Z28 T s).1.cells,psH T (Z28 T s).2++X):=λs X h hX=>p4 ((),s,X) ⟨h,hX⟩
 have qs:∀s X,PsOK T s->Z08 [0] X=true->Z06 Y00 O (psH T s++X) 110 [.ptr 0 0]=some (.agg (Z1w T s).1.cells,psH T (Z1w T s).2++X):=λs X h hX=>p5 ((),s,X) ⟨h,hX⟩
 have qk:∀t X,PsOK T t->s.i+1<=t.i->Z08 [0] X=true->Z06 Y00 O (psH T t++X) 47 [.ptr 0 0]=some (stA (blk t).1,psH T (blk t).2++X):=λt X h hi hX=>p6 ((),t,X) ⟨⟨h,hi⟩,hX⟩
 have qt:∀t X,PsOK T t->s.i+1<=t.i->Z08 [0] X=true->Z06 Y00 O (psH T t++X) 93 [.ptr 0 0]=some (.agg (stm t).1.cells,psH T (stm t).2++X):=λt X h hi hX=>p7 ((),t,X) ⟨⟨h,hi⟩,hX⟩
 clear p1 p2 p3 p4 p5 p6 p7
 have bgo:∀t,PsOK T t->s.i+1<=t.i->PsGo T t (blk t).2:=λt h h2=>(hblk t h h2).1
 clear hblk hstm
 unfold Z3n
 cases h1:isF T s kIf with
 |true =>
  rw[if_pos rfl]
  have f0:=λX=>tk kIf s X rfl h1 hs
  have ok0:=(Z0b hs h1).ok
  have b0:=Z3L ok0
  have i1:s.i+1<=(Z28 T (Z02 s)).2.i:=b0.on
  have b1:=bgo _ b0.ok i1
  have i2:=Y06 i1 b1.on
  have f1:=λX=>qb _ X ok0
  have f2:=λX=>qk _ X b0.ok i1
  have ok1:=b0.ok
  have ok2:=b1.ok
  clear b0 b1 bgo
  unfold Zch
  generalize Z02 s=u0 at *
  generalize Z28 T u0=r0 at *
  obtain⟨⟨eo,en,et,ek⟩,u1⟩:=r0
  simp only at f1 f2 ok1 ok2 i1 i2⊢
  generalize blk u1=r1 at *
  obtain⟨tl,u2⟩:=r1
  simp only at f1 f2 ok2 i2⊢
  unfold Z9Z
  cases h2:isF T u2 Zex with
  |true =>
   simp only[if_true]
   have f3:=λX=>tk Zex u2 X rfl h2 ok2
   have ok3:=(Z0b ok2 h2).ok
   have i3:s.i+1<=(Z02 u2).i:=Y06 i2 (Z0b ok2 h2).on
   have f4:=λX=>qi kIf _ X ok3
   cases h3:isF T (Z02 u2) kIf with
   |true =>
    simp only[if_true]
    rw[h3]at f4
    have f5:=λX=>qt _ X ok3 i3
    clear tk tn qn qi qb qs qk qt
    generalize Z02 u2=u3 at *
    generalize stm u3=r3 at *
    obtain⟨⟨y1,y2,y3,y4,y5,y6,y7⟩,u4⟩:=r3
    simp only[psH,Ex.cells,St.cells,stA,exA]at f0 f1 f2 f3 f4 f5⊢
    refine Z0V follows Z05 (Z09 follows Z05 hO 3) Y0r rfl (Z0f (isC:=Zqf) 3) ?_
    repeat' ((conv=>whnf);first|refine exI (f0 _ rfl) ?_|refine exI (f1 _ rfl) ?_|refine exI (f2 _ rfl) ?_|refine exI (f3 _ rfl) ?_|refine exI (f4 _ rfl) ?_|refine exI (f5 _ rfl) ?_|refine stp ?_|with_reducible apply Z01<;>intro h)
    all_goals (try (conv=>whnf))
    all_goals exact⟨[1,2,3,4,5],[0],rfl,⟨⟨rfl,rfl,rfl,rfl,Y02 (Y07 (rest:=[]) rfl rfl)⟩,trivial⟩,rfl,rfl,.inr rfl⟩
   |false =>
    simp only[Y0m,if_false]
    rw[h3]at f4
    have f5:=λX=>qk _ X ok3 i3
    clear tk tn qn qi qb qs qk qt
    generalize Z02 u2=u3 at *
    generalize blk u3=r3 at *
    obtain⟨el,u4⟩:=r3
    simp only[psH,Ex.cells,St.cells,stA,exA]at f0 f1 f2 f3 f4 f5⊢
    refine Z0V follows Z05 (Z09 follows Z05 hO 3) Y0r rfl (Z0f (isC:=Zqf) 3) ?_
    repeat' ((conv=>whnf);first|refine exI (f0 _ rfl) ?_|refine exI (f1 _ rfl) ?_|refine exI (f2 _ rfl) ?_|refine exI (f3 _ rfl) ?_|refine exI (f4 _ rfl) ?_|refine exI (f5 _ rfl) ?_|refine stp ?_|with_reducible apply Z01<;>intro h)
    all_goals (try (conv=>whnf))
    all_goals exact⟨[1,2,3,4,5],[0],rfl,⟨⟨rfl,rfl,rfl,rfl,Y02 (Y07 (rest:=[]) rfl rfl)⟩,trivial⟩,rfl,rfl,.inr rfl⟩
  |false =>
   simp only[Y0m,if_false]
   have f3:=λX=>tn Zex u2 X rfl h2 ok2
   clear tk tn qn qi qb qs qk qt
   refine MemQ.conv (r:=.agg [.int .i64 10,.str [],.str [],.int .i64 0,exA [.mk eo en et ek],stA tl,.nslice]) ?_ (λ_ _ _ h=>Z8Y (λ_ h=>h) (λ_ h=>h) (λ_ h=>Z2o h) h)
   simp only[psH,Ex.cells,St.cells,stA,exA]at f0 f1 f2 f3⊢
   refine Z0V follows Z05 (Z09 follows Z05 hO 3) Y0r rfl (Z0f (isC:=Zqf) 3) ?_
   repeat' ((conv=>whnf);first|refine exI (f0 _ rfl) ?_|refine exI (f1 _ rfl) ?_|refine exI (f2 _ rfl) ?_|refine exI (f3 _ rfl) ?_|refine stp ?_|with_reducible apply Z01<;>intro h)
   all_goals (try (conv=>whnf))
   all_goals exact⟨[1,2,3,4,5],[0],rfl,⟨⟨rfl,rfl,rfl,rfl,Y02 (Y07 (rest:=[]) rfl rfl)⟩,trivial⟩,rfl,rfl,.inr rfl⟩
 |false =>
  rw[if_neg (by decide)]
  have f0:=λX=>tn kIf s X rfl h1 hs
  cases h2:isF T s Z6E with
  |true =>
   rw[if_pos rfl]
   have f1:=λX=>tk Z6E s X rfl h2 hs
   have ok0:=(Z0b hs h2).ok
   have b0:=Z3L ok0
   have i1:s.i+1<=(Z28 T (Z02 s)).2.i:=b0.on
   have f2:=λX=>qb _ X ok0
   have f3:=λX=>qk _ X b0.ok i1
   clear b0 bgo tk tn qn qi qb qs qk qt
   unfold Zl2
   generalize Z02 s=u0 at *
   generalize Z28 T u0=r0 at *
   obtain⟨⟨eo,en,et,ek⟩,u1⟩:=r0
   simp only at f2 f3 i1⊢
   generalize blk u1=r1 at *
   obtain⟨tl,u2⟩:=r1
   refine MemQ.conv (r:=.agg [.int .i64 11,.str [],.str [],.int .i64 0,exA [.mk eo en et ek],stA tl,.nslice]) ?_ (λ_ _ _ h=>Z8Y (λ_ h=>h) (λ_ h=>h) (λ_ h=>Z2o h) h)
   simp only[psH,Ex.cells,St.cells,stA,exA]at f0 f1 f2 f3⊢
   refine Z0V follows Z05 (Z09 follows Z05 hO 3) Y0r rfl (Z0f (isC:=Zqf) 3) ?_
   repeat' ((conv=>whnf);first|refine exI (f0 _ rfl) ?_|refine exI (f1 _ rfl) ?_|refine exI (f2 _ rfl) ?_|refine exI (f3 _ rfl) ?_|refine stp ?_|with_reducible apply Z01<;>intro h)
   all_goals (try (conv=>whnf))
   all_goals exact⟨[1,2,3,4,5],[0],rfl,⟨⟨rfl,rfl,rfl,rfl,Y02 (Y07 (rest:=[]) rfl rfl)⟩,trivial⟩,rfl,rfl,.inr rfl⟩
  |false =>
   rw[if_neg (by decide)]
   have f1:=λX=>tn Z6E s X rfl h2 hs
   have f2:=λX=>qs s X hs
   have ok1:=(Zfy hs).1.ok
   have f3:=λX=>qn [59] _ X ok1
   clear bgo tk tn qn qi qb qs qk qt
   generalize Z1w T s=r at *
   obtain⟨x,u⟩:=r
   obtain⟨y1,y2,y3,y4,y5,y6,y7,y8,y9,y10,hy⟩:=Z4e x
   rw[hy]at f2⊢
   simp only at f2 f3 ok1⊢
   generalize Z03 T u [59]=u2 at *
   simp only[psH]at f0 f1 f2 f3⊢
   refine Z0V follows Z05 (Z09 follows Z05 hO 3) Y0r rfl (Z0f (isC:=Zqf) 3) ?_
   repeat' ((conv=>whnf);first|refine exI (f0 _ rfl) ?_|refine exI (f1 _ rfl) ?_|refine exI (f2 _ rfl) ?_|refine exI (f3 _ rfl) ?_|refine stp ?_|with_reducible apply Z01<;>intro h)
   all_goals (try (conv=>whnf))
   all_goals exact⟨[],[0],rfl,⟨⟨rfl,rfl,rfl,rfl,Y02 (Y07 (rest:=[]) rfl rfl)⟩,trivial⟩,rfl,rfl,.inl (Y03 rfl)⟩
def Z5R(T:List Tq):Nat->Ps->St×Ps
 |0,s=>(.mk 0 [] [] 0 [] [] [],s)
 |d+1,s=>Z3n T (Z9M T (Z5R T d)) (Z5R T d) s
theorem Zec{T:List Tq}:∀(d i0:Nat),T.length<=i0+d->ZpB gl T i0 (Z5R T d)
 |0,i0,hd=>λs hs hi=>by have:=hs.lt;omega
 |d+1,i0,hd=>λs hs hi=>by
  have ih:ZpB gl T (s.i+1) (Z5R T d):=Zec d (s.i+1) (by omega)
  have ib:=ZcK ih
  exact⟨ZnH (λt h h2=>(ib t h h2).1) (λt h h2=>(ih t h h2).1.1) hs,Zi7 ib ih hs⟩
def Z1D(T:List Tq)(s:Ps):St×Ps:=Z5R T T.length s
def Z6a(T:List Tq)(s:Ps):List St×Ps:=Z9M T (Z1D T) s
theorem Z6h(T:List Tq):ZpB gl T 0 (Z1D T):=Zec T.length 0 (by omega)
theorem ZbX(T:List Tq):ZrI gl T 0 (Z6a T):=ZcK (Z6h T)
end
section
variable {gl:Z0k}
theorem Zox(T:List Tq)(s:Ps):Kr s (Zdf T s).2:=(Z0s T s [40]).trans ((Z3X T ordL _ 1).trans (Z0s T _ _))
theorem Zb2(T:List Tq)(nm:List UInt8)(s:Ps):Kr s (Z3D T nm s).2:=by
 unfold Z3D
 split
 ·exact (Z0q s).trans (Z7G T _ _ _ _)
 split
 ·exact (Z0q s).trans (Z7G T _ _ _ _)
 split
 ·exact (Z0q s).trans (Z7G T _ _ _ _)
 split
 ·exact (Z0q s).trans (Z7G T _ _ _ _)
 ·exact Z6M T s
theorem Zlf(T:List Tq)(s:Ps):Kr s (Z1w T s).2:=by
 unfold Z1w
 split
 ·exact (Z0q s).trans (Z7G T _ _ _ _)
 split
 ·exact (Z0q s).trans (Zox T _)
 split
 ·exact (Z0q s).trans (Z65 T _)
 split
 ·exact (Z0q s).trans (Z65 T _)
 ·exact (Z48 T s).trans ((Z0s T _ _).trans (Zb2 T _ _))
theorem Z8W{T:List Tq}{stm:Ps->St×Ps}(hk:∀s,Kr s (stm s).2)(w:List UInt8):∀(k:Nat)(s:Ps),Kr s (Z20 T stm w k s).2
 |0,s=>Kr.rfl'
 |k+1,s=>by
  unfold Z20;split
  ·exact (hk s).trans (Z8W hk w k _)
  ·exact Kr.rfl'
theorem Z9L{T:List Tq}{stm:Ps->St×Ps}(hk:∀s,Kr s (stm s).2)(s:Ps):Kr s (Z9M T stm s).2:=(Z0s T s _).trans ((Z8W hk _ _ _).trans (Z0s T _ _))
theorem ZjT{T:List Tq}{blk:Ps->List St×Ps}{stm:Ps->St×Ps}(hb:∀s,Kr s (blk s).2)(hk:∀s,Kr s (stm s).2)(s:Ps):Kr s (Z9Z T blk stm s).2:=by
 unfold Z9Z
 split
 · split
   ·exact (Z0q s).trans (hk _)
   ·exact (Z0q s).trans (hb _)
 ·exact Kr.rfl'
theorem Zod{T:List Tq}{blk:Ps->List St×Ps}{stm:Ps->St×Ps}(hb:∀s,Kr s (blk s).2)(hk:∀s,Kr s (stm s).2)(s:Ps):Kr s (Zch T blk stm s).2:=(Z65 T s).trans ((hb _).trans (ZjT hb hk _))
theorem Znr{T:List Tq}{blk:Ps->List St×Ps}(hb:∀s,Kr s (blk s).2)(s:Ps):Kr s (Zl2 T blk s).2:=(Z65 T s).trans (hb _)
theorem ZnG{T:List Tq}{blk:Ps->List St×Ps}{stm:Ps->St×Ps}(hb:∀s,Kr s (blk s).2)(hk:∀s,Kr s (stm s).2)(s:Ps):Kr s (Z3n T blk stm s).2:=by
 unfold Z3n
 split
 ·exact (Z0q s).trans (Zod hb hk _)
 split
 ·exact (Z0q s).trans (Znr hb _)
 ·exact (Zlf T s).trans (Z0s T _ _)
theorem Z34(T:List Tq):∀(d:Nat)(s:Ps),Kr s (Z5R T d s).2
 |0,s=>Kr.rfl'
 |d+1,s=>ZnG (λt=>Z9L (Z34 T d) t) (Z34 T d) s
def Zr7(nm:List UInt8):St->St
 | .mk k _ l o x t e=>.mk k nm l o x t e
theorem Znt(T:List Tq)(nm:List UInt8)(s:Ps):Z3D T nm s=(Zr7 nm (Z3D T [] s).1,(Z3D T [] s).2):=by
 unfold Z3D
 repeat' split
 all_goals rfl
def ZeF(T:List Tq)(hT:TqOK T):FamX Y00 gl:=Z9r T 83 (by kernel_rfl) (I:=Int×Nat) (λi s=>GOK T s/\i.2<=2) (λi=>[.ptr 0 0,.int .i64 i.1,.int .i64 i.2]) (λi s=>.agg (Z2H T [] i.1 i.2 s).1.cells) (λi s=>(Z2H T [] i.1 i.2 s).2) (λ_=>rfl) (λi j h=>by
 obtain⟨a,b⟩:=i
 obtain⟨c,d⟩:=j
 simp only[List.cons.injEq,AV.int.injEq,true_and,and_true]at h
 obtain⟨h1,h2⟩:=h
 have:b=d:=by omega
 subst h1 this
 rfl) (λi s h=>Zhm hT h.1 i.1 i.2 h.2)
theorem Znj{Y:AV->Prop}{O:Orc}{T:List Tq}{hT:TqOK T}(p:(ZeF (gl:=gl) T hT).Ask Y O){s:Ps}(hs:GOK T s)(k:Int)(n:Nat)(hn:n<=2)(hX:∀u,XF (Z2H T [] k n s).2 u->Y u){X:Z00}(h:Z08 Z0z X=true) :
 Z06 Y00 O (gL T s.i s.op++X) 83 [.ptr 0 0,.int .i64 k,.int .i64 n]=some (.agg (Z2H T [] k n s).1.cells,gB T (Z2H T [] k n s).2++X):=Z4Z p (k,n) s X hs ⟨hs,hn⟩ hX h
def Zsy(f:Nat):Bool:=Y01 f 81 || Y01 f 89
def Zms(T:List Tq)(k:Int)(s:Ps):St×Ps:=((Zci T k s).1,Z03 T (Zci T k s).2 [59])
theorem Zjj{T:List Tq}(hT:TqOK T){s:Ps}(hg:GOK T s)(kind:Int):GX gl T 87 [.ptr 0 0,.int .i64 kind] s (.agg (Zms T kind s).1.cells) (Zms T kind s).2:=by
 unfold Zms Zci
 refine GX.conv (r:=.agg [.int .i64 kind,.str [],.str [],.int .i64 0,exA [(Z28 T s).1],.nslice,.nslice]) ?_ (λ_ _ _ h=>Z8Y (λ_ h=>h) (λ_ h=>Z2o h) (λ_ h=>Z2o h) h)
 refine GX.of λh0=>?_
 simp only
 obtain⟨O,hO,⟨p1,p2,-⟩,-⟩:=Z2w (P:=Y00) (gl:=gl) (XF (Z03 T (Z28 T s).2 [59])) [Z6G T,ZbE T hT] [] rfl
 have k2:=Z0s T (Z28 T s).2 [59]
 have q1:=λX hX=>Zkp p2 hg k2.x (X:=X) hX
 have q2:=λh X hX=>Z87 p1 hT (s:=(Z28 T s).2) h [59] rfl rfl (by decide) (λu hu=>hu) (X:=X) hX
 have o1:=λhe=>hg.go (Z3L hg.ok) (Z65 T s) he
 clear p1 p2 k2
 generalize Z28 T s=r at *
 obtain⟨⟨yo,yn,yt,yk⟩,s1⟩:=r
 simp only at q2 o1 hO⊢
 generalize Z03 T s1 [59]=s2 at *
 refine Z0w Zsy 3 follows Z05 hO Tryz.func87 rfl ?_
 rw (occs:=.pos [1]) [Z0c h0]
 simp only[gL,LV,Ex.cells,Y04,Y05]at q1 q2⊢
 repeat' ((conv=>whnf);first|(exact Or.inl rfl)|(refine Or.inr ?_)|(refine exG (q1 _ rfl) (λhd=>?_) (λe1=>?_))|(refine exG (q2 (o1 e1) _ rfl) (λhd=>?_) (λe2=>?_))|refine stp ?_|with_reducible apply Z01<;>intro h)
 all_goals (conv=>whnf)
 all_goals exact⟨[11,12,13,14],M11,rfl,(by refine Z0G ?_ ?_ ?_<;>first|rfl|exact e2),rfl,rfl,.inr rfl⟩
def ZrU(f:Nat):Bool:=Y01 f 57 || (Y01 f 83 || Y01 f 77)
theorem Zj8{T:List Tq}(hT:TqOK T){s:Ps}(hg:GOK T s):GX gl T 82 [.ptr 0 0] s (.agg (Z3D T [] s).1.cells) (Z3D T [] s).2:=by
 have f1:=Z4Y hT hg.ok hg.er (w:=Z8i) rfl
 have f2:=Z4Y hT hg.ok hg.er (w:=ZkQ) rfl
 have f3:=Z4Y hT hg.ok hg.er (w:=ZkR) rfl
 have f4:=Z4Y hT hg.ok hg.er (w:=Za1) rfl
 by_cases hb:isF T s Z8i=true\/isF T s ZkQ=true\/isF T s ZkR=true\/isF T s Za1=true
 · obtain ⟨w, k, n, hn, hw, hv⟩ : ∃ w k n, n <= 2 /\ isF T s w = true /\ Z3D T [] s = Z2H T [] k n (Z02 s) /\ ((w = Z8i /\ k = 2 /\ n = 0) \/ (w = ZkQ /\ k = 4 /\ n = 2) \/ (w = ZkR /\ k = 5 /\ n = 1) \/ (w = Za1 /\ k = 6 /\ n = 1)) := by
    unfold Z3D
    cases h1:isF T s Z8i with
    |true=>exact⟨Z8i,2,0,by decide,h1,by simp,.inl ⟨rfl,rfl,rfl⟩⟩
    |false =>
     cases h2:isF T s ZkQ with
     |true=>exact⟨ZkQ,4,2,by decide,h2,by simp,.inr (.inl ⟨rfl,rfl,rfl⟩)⟩
     |false =>
      cases h3:isF T s ZkR with
      |true=>exact⟨ZkR,5,1,by decide,h3,by simp,.inr (.inr (.inl ⟨rfl,rfl,rfl⟩))⟩
      |false =>
       cases h4:isF T s Za1 with
       |true=>exact⟨Za1,6,1,by decide,h4,by simp,.inr (.inr (.inr ⟨rfl,rfl,rfl⟩))⟩
       |false=>rw[h1,h2,h3,h4]at hb;simp at hb
   obtain⟨hv,hc⟩:=hv
   rw[hv]
   refine GX.of λh0=>?_
   obtain⟨O,hO,⟨p1,p2,-⟩,-⟩:=Z2w (P:=Y00) (gl:=gl) (XF (Z2H T [] k n (Z02 s)).2) [Z6B T,ZeF T hT] [] rfl
   have hgs:GOK T (Z02 s):=hg.go (Z0b hg.ok hw) (Z0q s) hg.er
   have qt:=λw (h:gis T s 2 w=true) X hX=>Znk p1 hg h (λu hu=>(Z9V (s:=Z02 s) hg.er u hu).elim) (X:=X) hX
   have qf:=λw (h:gis T s 2 w=false) X hX=>ZhK p1 hg h (X:=X) hX
   have qa:=λX hX=>Znj p2 hgs k n hn (λu hu=>hu) (X:=X) hX
   clear p1 p2
   have htx:=Z1G hw
   have hno:∀v,v≠w->isF T s v=false:=λv hv=>by
    cases h:isF T s v with
    |false=>rfl
    |true=>exact absurd ((Z1G h).symm.trans htx) hv
   have t1:isF T s Z8i=true->w=Z8i:=λh=>htx.symm.trans (Z1G h)
   clear hv
   have hst:(Z02 s).i=s.i+1/\(Z02 s).op=s.op:=⟨rfl,rfl⟩
   generalize Z02 s=s' at *
   obtain⟨i',er',at',op'⟩:=s'
   simp only at hst
   obtain⟨rfl,rfl⟩:=hst
   generalize Z2H T [] k n ⟨s.i+1,er',at',s.op⟩=r at *
   obtain⟨y,s1⟩:=r
   obtain⟨y1,y2,y3,y4,y5,y6,y7,y8,y9,y10,hy⟩:=Z4e y
   rw[hy]at qa⊢
   rcases hc with ⟨rfl,rfl,rfl⟩|⟨rfl,rfl,rfl⟩|⟨rfl,rfl,rfl⟩|⟨rfl,rfl,rfl⟩
   case' inl =>
    have g1:=qt _ (f1.trans hw)
    have g2:=g1
    have g3:=g1
    have g4:=g1
   case' inr.inl =>
    have g1:=qf _ (f1.trans (hno _ (by decide)))
    have g2:=qt _ (f2.trans hw)
    have g3:=g1
    have g4:=g1
   case' inr.inr.inl =>
    have g1:=qf _ (f1.trans (hno _ (by decide)))
    have g2:=qf _ (f2.trans (hno _ (by decide)))
    have g3:=qt _ (f3.trans hw)
    have g4:=g1
   case' inr.inr.inr =>
    have g1:=qf _ (f1.trans (hno _ (by decide)))
    have g2:=qf _ (f2.trans (hno _ (by decide)))
    have g3:=qf _ (f3.trans (hno _ (by decide)))
    have g4:=qt _ (f4.trans hw)
   all_goals clear qt qf
   all_goals refine Z0w ZrU 3 follows Z05 hO Tryz.func82 rfl ?_
   all_goals rw (occs:=.pos [1]) [Z0c h0]
   all_goals simp only[gL,LV,Y04,Y05]at g1 g2 g3 g4 qa⊢
   all_goals repeat' ((conv=>whnf);first|(exact Or.inl rfl)|(refine Or.inr ?_)|refine exI (g1 _ rfl) ?_|refine exI (g2 _ rfl) ?_|refine exI (g3 _ rfl) ?_|refine exI (g4 _ rfl) ?_|(refine exG (qa _ rfl) (λhd=>?_) (λe1=>?_))|refine stp ?_|with_reducible apply Z01<;>intro h)
   all_goals (conv=>whnf)
   all_goals exact⟨[],M11,rfl,(by refine Z0G ?_ ?_ ?_<;>first|rfl|exact e1),rfl,rfl,.inl (Y03 rfl)⟩
 · have b1:isF T s Z8i=false:=Y0f.2 λh=>hb (.inl h)
   have b2:isF T s ZkQ=false:=Y0f.2 λh=>hb (.inr (.inl h))
   have b3:isF T s ZkR=false:=Y0f.2 λh=>hb (.inr (.inr (.inl h)))
   have b4:isF T s Za1=false:=Y0f.2 λh=>hb (.inr (.inr (.inr h)))
   have hv:Z3D T [] s=(.mk 1 [] [] 0 [(Z0D T s).1] [] [],(Z0D T s).2):=by
    unfold Z3D
    rw[b1,b2,b3,b4]
    simp
   rw[hv]
   refine GX.conv (r:=.agg [.int .i64 1,.str [],.str [],.int .i64 0,exA [(Z0D T s).1],.nslice,.nslice]) ?_ (λ_ _ _ h=>Z8Y (λ_ h=>h) (λ_ h=>Z2o h) (λ_ h=>Z2o h) h)
   refine GX.of λh0=>?_
   simp only
   obtain⟨O,hO,⟨p1,p2,-⟩,-⟩:=Z2w (P:=Y00) (gl:=gl) (XF (Z0D T s).2) [Z6B T,Z8E T hT] [] rfl
   have g1:=λX hX=>ZhK p1 hg (f1.trans b1) (X:=X) hX
   have g2:=λX hX=>ZhK p1 hg (f2.trans b2) (X:=X) hX
   have g3:=λX hX=>ZhK p1 hg (f3.trans b3) (X:=X) hX
   have g4:=λX hX=>ZhK p1 hg (f4.trans b4) (X:=X) hX
   have qa:=λX hX=>Zkn p2 hg (λu hu=>hu) (X:=X) hX
   clear p1 p2 hv
   generalize Z0D T s=r at *
   obtain⟨⟨yo,yn,yt,yk⟩,s1⟩:=r
   simp only at hO⊢
   refine Z0w ZrU 3 follows Z05 hO Tryz.func82 rfl ?_
   rw (occs:=.pos [1]) [Z0c h0]
   simp only[gL,LV,Ex.cells,Y04,Y05]at g1 g2 g3 g4 qa⊢
   repeat' ((conv=>whnf);first|(exact Or.inl rfl)|(refine Or.inr ?_)|refine exI (g1 _ rfl) ?_|refine exI (g2 _ rfl) ?_|refine exI (g3 _ rfl) ?_|refine exI (g4 _ rfl) ?_|(refine exG (qa _ rfl) (λhd=>?_) (λe1=>?_))|refine stp ?_|with_reducible apply Z01<;>intro h)
   all_goals (conv=>whnf)
   all_goals exact⟨[11,12,13,14],M11,rfl,(by refine Z0G ?_ ?_ ?_<;>first|rfl|exact e1),rfl,rfl,.inr rfl⟩
end
section
variable {gl:Z0k}
def ZqR(gl:Z0k)(T:List Tq)(i0:Nat)(stm:Ps->St×Ps):Prop:=∀s,GOK T s->i0<=s.i->GX gl T 41 [.ptr 0 0] s (.agg (stm s).1.cells) (stm s).2
def Zpj(gl:Z0k)(T:List Tq)(i0:Nat)(blk:Ps->List St×Ps):Prop:=∀s,GOK T s->i0<=s.i->GX gl T 59 [.ptr 0 0] s (stA (blk s).1) (blk s).2
def Z5T(b:Nat):List St->AV
 |[]=>.nslice
 |e::l=>.slice b 0 (l.length+1) (l.length+1) 7
def Zbh(b:Nat):List St->Z00
 |[]=>[]
 |e::l=>[⟨true,b,0,.cells (stC (e::l)) 58⟩]
def Zsu(f:Nat):Bool:=Y01 f 100 || (Y01 f 41 || (Y01 f 84 || Y01 f 86))
def Zjb(T:List Tq)(i0:Nat)(stm:Ps->St×Ps)(h:ZqR gl T i0 stm):FamX Y00 gl:=Z9r T 41 (by kernel_rfl) (I:=Unit) (λ_ s=>GOK T s/\i0<=s.i) (λ_=>[.ptr 0 0]) (λ_ s=>.agg (stm s).1.cells) (λ_ s=>(stm s).2) (λ_=>rfl) (λ_ _ _=>rfl) (λ_ s hs=>h s hs.1 hs.2)
theorem Zjm {T : List Tq} (hT : TqOK T) {i0 : Nat} {stm : Ps -> St × Ps} (hkr : ∀ s, Kr s (stm s).2) (hgo : ∀ s, PsOK T s -> i0 <= s.i -> PsGo T s (stm s).2 /\ ((stm s).2.err = 0 -> s.i < (stm s).2.i))
  (hend:∀s,GOK T s->i0<=s.i->(Z0r T s).kind=5->(stm s).2.err=5/\(stm s).2.at_=(Z0r T s).pos) (hq:ZqR gl T i0 stm):Zpj gl T i0 (Z9M T stm):=by
 intro s hg hi
 have hTy:Zcj Y00 53 53=some (58,7,120):=by kernel_rfl
 unfold Z9M
 have k1:=Z0s T s [123]
 have k2:=Z8W (T:=T) hkr [125] (T.length+1) (Z03 T s [123])
 have k3:=Z0s T (Z20 T stm [125] (T.length+1) (Z03 T s [123])).2 [125]
 have o1:=λhe=>hg.go (Z0F hg.ok [123]) k1 he
 have hi1:=Y06 hi (Z0F hg.ok [123]).on
 generalize hs1:Z03 T s [123]=s1 at *
 generalize hR:Z20 T stm [125] (T.length+1) s1=R at *
 obtain⟨RL,RS⟩:=R
 simp only at k2 k3⊢
 refine GX.conv (r:=stN RL) ?_ (λ_ _ _ h=>Zft h)
 refine GX.of λh0=>?_
 generalize hE:Z03 T RS [125]=E at *
 obtain⟨O,hO,⟨p1,p2,p3,p4,-⟩,-⟩:=Z2w (P:=Y00) (gl:=gl) (XF E) [Zd5 T,Zjb T i0 stm hq,Z39 T,Z4W T] [] rfl
 have q1:∀X,Z08 Z0z X=true->Z06 Y00 O (gL T s.i s.op++X) 84 [.ptr 0 0,.str [123]]=some (.tuple [],gB T s1++X):=λX hX=>by
  have h:=Zko p3 hT hg [123] rfl rfl (X:=X) (by rw[hs1];exact (k2.trans k3).x) hX
  rwa [hs1]at h
 have hfew:=hg.ok.few
 refine Z0w Zsu 3 follows Z05 hO Tryz.func59 rfl ?_
 rw (occs:=.pos [1]) [Z0c h0]
 simp only[gL,LV,Y04,Y05]at q1⊢
 repeat' ((conv=>whnf);first|(exact Or.inl rfl)|(refine Or.inr ?_)|(refine exG (q1 _ rfl) (λhd=>?_) (λe1=>?_))|refine stp ?_|with_reducible apply Z01<;>intro h)
 conv=>whnf
 have hg1:=o1 e1
 have hI:GOK T s1/\i0<=s1.i/\([]:List St).length+(T.length+1)<=T.length+1/\T.length-s1.i<T.length+1/\[]++(Z20 T stm [125] (T.length+1) s1).1=RL/\(Z20 T stm [125] (T.length+1) s1).2=RS:=⟨hg1,hi1,by simp,by omega,by rw[hR];rfl,by rw[hR]⟩
 refine⟨Bs4,(λy=>GOK T y.s/\i0<=y.s.i/\y.l.length+y.k<=T.length+1/\T.length-y.s.i<y.k/\y.l++(Z20 T stm [125] y.k y.s).1=RL/\(Z20 T stm [125] y.k y.s).2=RS),(λy=>[(0,.ptr 0 0),(3,Z5T 11 y.l)]),
  (λy=>gL T y.s.i y.s.op++Zbh 11 y.l),(λy=>y.k),⟨⟨[],s1,T.length+1⟩,hI,?_⟩,?_⟩
 · refine Y0a M11 rfl rfl ?_ ?_ rfl
   ·exact wks
   ·refine Z1o (l:=[]) (ms:=[]) (X':=[]) ?_ ?_ trivial<;>rfl
 clear hI hg1 o1 q1 k1 k2 hR hs1 hi1 hg hi e1
 rintro⟨l,s,k⟩ ⟨hs,hi,hlk,hk,hL,hS⟩
 dsimp only at hs hi hlk hk hL hS
 (try dsimp only)
 obtain⟨k,rfl⟩:∃k',k=k'+1:=⟨k-1,by omega⟩
 have hsg:=Z4X hT hs.ok hs.er (w:=[125]) rfl
 have qi:=λX hX=>ZmC p1 hs (k:=4) (w:=[125]) rfl (X:=X) hX
 have hlt:=hs.ok.lt
 rw[hsg]at qi
 cases hc:isF T s [125] with
 |true =>
  rw[hc]at qi
  have hst:=Z6f (T:=T) (stm:=stm) (w:=[125]) (s:=s) (λh=>by rw[hc]at h;cases h.2.1) (k+1)
  rw[hst]at hL hS
  simp only[Y0e]at hL hS
  subst hL hS
  have ql:∀X,Z08 Z0z X=true->Z06 Y00 O (gL T s.i s.op++X) 86 [.ptr 0 0,.str [125]]=some (.tuple [],gB T E++X):=λX hX=>by
   have h:=Zkm p4 hT (s:=s) hs [125] rfl rfl rfl (by decide) (by rw[hE];exact λu hu=>hu) (X:=X) hX
   rwa [hE]at h
  have hcl:(stC l).length=l.length*7:=Z4F _
  clear p1 p2 p3 p4 hst hE k3 hgo hkr hend hq
  simp only[gL,LV,Y04,Y05]at qi ql⊢
  rcases l with _|⟨a,l⟩
  all_goals simp only[Z5T,Zbh,stN]
  all_goals repeat' ((conv=>whnf);first|(exact Or.inl rfl)|(refine Or.inr ?_)|refine exI (qi _ rfl) ?_|(refine exG (ql _ rfl) (λhd=>?_) (λe1=>?_))|refine stp ?_|with_reducible apply Z01<;>intro h)
  all_goals (conv=>whnf)
  ·exact⟨[],M11,rfl,(by refine Z0G ?_ ?_ ?_<;>first|rfl|exact e1),rfl,rfl,.inl (Y03 rfl)⟩
  ·exact⟨[11],M11,rfl,(by refine Z0G ?_ ?_ ?_<;>first|rfl|exact e1),rfl,rfl,.inr (Z0B (n:=28) rfl hcl (Z3G _))⟩
 |false =>
  rw[hc]at qi
  by_cases h5:(Z0r T s).kind=5
  · have hst:=Z6f (T:=T) (stm:=stm) (w:=[125]) (s:=s) (λh=>h.2.2 h5) (k+1)
    rw[hst]at hL hS
    simp only[Y0e]at hL hS
    subst hL hS
    obtain⟨d1,d2⟩:=hend s hs hi h5
    have hEf:E=Z0p s 5 (Z0r T s).pos:=by
     rw[<- hE]
     unfold Z03 Z0L Z0l
     rw[hc]
     simp
    have qs:∀X,Z08 Z0z X=true->Z06 Y00 O (gL T s.i s.op++X) 41 [.ptr 0 0]=some (.agg (stm s).1.cells,gD (stm s).2++X):=λX hX=>ZqO p2 () s X hs ⟨hs,hi⟩ (λu hu=>by
     rw[hEf]
     obtain⟨g1,g2⟩:=hu
     refine⟨Z1Y (by decide),?_⟩
     rw[g2]
     (try simp only)
     rw[d1,d2]
     unfold Z0p
     rw[if_pos hs.er]) hX (by simp only[d1];decide)
    clear p1 p2 p3 p4 hst hE k3 hgo hkr hend hq hEf d1 d2
    generalize stm s=r at *
    obtain⟨⟨y1,y2,y3,y4,y5,y6,y7⟩,s2⟩:=r
    simp only[gL,LV,gD,St.cells,exA,Y04,Y05]at qi qs⊢
    rcases l with _|⟨a,l⟩
    all_goals simp only[Z5T,Zbh,stN]
    case' cons =>
     have hcl:(stC (a::l)).length=(l.length+1)*7:=Z4F _
     simp only[Y0d]at hlk
     have hfew2:l.length+1<=1000001:=by omega
    all_goals repeat' ((conv=>whnf);first|(exact Or.inl rfl)|(refine Or.inr ?_)|refine exI (qi _ rfl) ?_|refine exI (qs _ rfl) ?_|(refine apS ?_)|refine stp ?_|with_reducible apply Z01<;>intro h)
  · have hg:=hgo s hs.ok hi
    have hst:Z20 T stm [125] (k+1) s=((stm s).1::(Z20 T stm [125] k (stm s).2).1,(Z20 T stm [125] k (stm s).2).2):=by
     rw[Z20,if_pos ⟨hs.er,hc,h5⟩]
    rw[hst]at hL hS
    simp only at hL hS
    have kr2:=hkr s
    have kr3:=Z8W (T:=T) hkr [125] k (stm s).2
    rw[hS]at kr3
    have qs:∀X,Z08 Z0z X=true->Z06 Y00 O (gL T s.i s.op++X) 41 [.ptr 0 0]=some (.agg (stm s).1.cells,gB T (stm s).2++X):=λX hX=>Z4Z p2 () s X hs ⟨hs,hi⟩ ((kr3.trans k3).x) hX
    have ho:=λhe=>hs.go hg.1 kr2 he
    have hon:=Y06 hi hg.1.on
    have hlt2:=hg.2
    clear p1 p2 p3 p4 hst hE k3 hgo hkr hend hq kr2 kr3 hg
    generalize stm s=r at *
    obtain⟨⟨y1,y2,y3,y4,y5,y6,y7⟩,s2⟩:=r
    simp only[gL,LV,St.cells,exA,Y04,Y05]at qi qs ho hon hlt2 hL hS⊢
    rcases l with _|⟨a,l⟩
    · simp only[Z5T,Zbh]
      repeat' ((conv=>whnf);first|(exact Or.inl rfl)|(refine Or.inr ?_)|refine exI (qi _ rfl) ?_|(refine exG (qs _ rfl) (λhd=>?_) (λe1=>?_))|(refine apS ?_)|refine stp ?_|with_reducible apply Z01<;>intro h)
      conv=>whnf
      refine⟨⟨[.mk y1 y2 y3 y4 y5 y6 y7],s2,k⟩,⟨ho e1,hon,by simp at hlk⊢;omega,by have:=hlt2 e1;simp only at this⊢;omega,by simpa using hL,hS⟩,Y0p _,?_⟩
      refine Y0a [0,1,2,3,4,5,6,7,8,9,10,12] rfl rfl ?_ ?_ rfl
      · dsimp only[Z5T,Y0b]
        exact wks
      ·refine Z1o (l:=[12]) (X':=[_]) ?_ ?_ ⟨⟨rfl,rfl,rfl,rfl,Z07 rfl (Z3G [.mk y1 y2 y3 y4 y5 y6 y7])⟩,trivial⟩<;>rfl
    · have hcl:(stC (a::l)).length=(l.length+1)*7:=Z4F _
      have hsn:=Zen (a::l) y1 y4 y2 y3 y5 y6 y7
      simp only[Y0d]at hlk
      simp only[Z5T,Zbh]
      repeat' ((conv=>whnf);first|(exact Or.inl rfl)|(refine Or.inr ?_)|refine exI (qi _ rfl) ?_|(refine exG (qs _ rfl) (λhd=>?_) (λe1=>?_))|(refine apS ?_)|refine stp ?_|with_reducible apply Z01<;>intro h)
      conv=>whnf
      have hl1:(l++[St.mk y1 y2 y3 y4 y5 y6 y7]).length=l.length+1:=by simp
      refine⟨⟨a::(l++[.mk y1 y2 y3 y4 y5 y6 y7]),s2,k⟩,⟨ho e1,hon,by simp only[Y0d,hl1];omega,by have:=hlt2 e1;simp only at this⊢;omega,by rw[<- hL];simp,hS⟩,Y0p _,?_⟩
      refine Y0a [0,1,2,3,4,5,6,7,8,9,10,13] rfl rfl ?_ ?_ rfl
      · dsimp only[Z5T,Y0b]
        exact wks
      ·refine Z1o (l:=[13]) (X':=[_]) ?_ ?_ ⟨⟨rfl,rfl,rfl,rfl,Z07 hsn (Z3G _)⟩,trivial⟩<;>rfl
end
section
variable {gl:Z0k}
def ZeE(T:List Tq)(i0:Nat)(blk:Ps->List St×Ps)(h:Zpj gl T i0 blk):FamX Y00 gl:=Z9r T 59 (by kernel_rfl) (I:=Unit) (λ_ s=>GOK T s/\i0<=s.i) (λ_=>[.ptr 0 0]) (λ_ s=>stA (blk s).1) (λ_ s=>(blk s).2) (λ_=>rfl) (λ_ _ _=>rfl) (λ_ s hs=>h s hs.1 hs.2)
def Zjk(T:List Tq)(F:Ps->St×Ps)(G:Ps->Prop)(ok:∀s,G s->GX gl T 88 [.ptr 0 0] s (.agg (F s).1.cells) (F s).2):FamX Y00 gl:=Z9r T 88 (by kernel_rfl) (I:=Unit) (λ_ s=>G s) (λ_=>[.ptr 0 0]) (λ_ s=>.agg (F s).1.cells) (λ_ s=>(F s).2) (λ_=>rfl) (λ_ _ _=>rfl) (λ_ s h=>ok s h)
def Zro(f:Nat):Bool:=Y01 f 57 || (Y01 f 89 || (Y01 f 59 || Y01 f 88))
theorem Zhl {T : List Tq} (hT : TqOK T) {i0 : Nat} {blk : Ps -> List St × Ps} {stm : Ps -> St × Ps} (hkb : ∀ s, Kr s (blk s).2) (hks : ∀ s, Kr s (stm s).2) (hgb : ∀ s, PsOK T s -> i0 <= s.i -> PsGo T s (blk s).2)
  (hb:Zpj gl T i0 blk) (hc:∀t,GOK T t->i0<=t.i->isF T t kIf=true->GX gl T 88 [.ptr 0 0] (Z02 t) (.agg (stm t).1.cells) (stm t).2) {s:Ps} (hg:GOK T s) (hi:i0<=s.i) :
  GX gl T 88 [.ptr 0 0] s (.agg (Zch T blk stm s).1.cells) (Zch T blk stm s).2:=by
 by_cases h0:s.err=0
 case neg=>exact GX.dead h0
 unfold Zch
 have k1:=Z65 T s
 have k2:=hkb (Z28 T s).2
 have k3:=ZjT (T:=T) hkb hks (blk (Z28 T s).2).2
 have o1:=λhe=>hg.go (Z3L hg.ok) k1 he
 have i1:=Y06 hi (Z3L hg.ok).on
 generalize hr0:Z28 T s=r0 at *
 obtain⟨⟨eo,en,et,ek⟩,u1⟩:=r0
 simp only at k1 k2 k3 o1 i1⊢
 have o2:=λhe1 he=>(o1 he1).go (hgb u1 (o1 he1).ok i1) k2 he
 have i2:u1.err=0->i0<=(blk u1).2.i:=λhe=>Y06 i1 (hgb u1 (o1 he).ok i1).on
 have q3:u1.err=0->GX gl T 59 [.ptr 0 0] u1 (stA (blk u1).1) (blk u1).2:=λhe=>hb u1 (o1 he) i1
 generalize hr1:blk u1=r1 at *
 obtain⟨tl,u2⟩:=r1
 simp only at k2 k3 o2 i2⊢
 have main:∀(els:List St)(E:Ps),Z9Z T blk stm u2=(els,E)->MemXQ Y00 gl (XF E) 11 88 [.ptr 0 0] (gB T s) (.agg (St.mk 10 [] [] 0 [.mk eo en et ek] tl els).cells) (gB T E):=by
  intro els E hE
  rw[hE]at k3
  simp only at k3
  obtain⟨O,hO,⟨p1,p2,p3,p4,-⟩,-⟩:=Z2w (P:=Y00) (gl:=gl) (XF E) [Z6B T,ZbE T hT,ZeE T i0 blk hb,Zjk T (λt=>stm { t with i:=t.i-1 }) (λt=>∃t',t=Z02 t'/\GOK T t'/\i0<=t'.i/\isF T t' kIf=true) (λt ⟨t',e,h1,h2,h3⟩=>by
   subst e
   have:({ Z02 t' with i:=(Z02 t').i-1 }:Ps)=t':=by obtain⟨a,b,c,d⟩:=t';rfl
   rw[this]
   exact hc t' h1 h2 h3)] [] rfl
  have qb:∀X,Z08 Z0z X=true->Z06 Y00 O (gL T s.i s.op++X) 89 [.ptr 0 0]=some (.agg (Ex.mk eo en et ek).cells,gB T u1++X):=λX hX=>by
   have h:=Zkp p2 hg (X:=X) (by rw[hr0];exact (k2.trans k3).x) hX
   rwa [hr0]at h
  have qk:u1.err=0->∀X,Z08 Z0z X=true->Z06 Y00 O (gL T u1.i u1.op++X) 59 [.ptr 0 0]=some (stA tl,gB T u2++X):=λhe X hX=>by
   have h:=Z4Z p3 () u1 X (o1 he) ⟨o1 he,i1⟩ (by simp only[hr1];exact k3.x) hX
   simpa only[hr1]using h
  cases h2:isF T u2 Zex with
  |false =>
   have hE2:Z9Z T blk stm u2=([],u2):=by unfold Z9Z;rw[h2];rfl
   rw[hE2]at hE
   cases hE
   have qm:u1.err=0->u2.err=0->∀X,Z08 Z0z X=true->Z06 Y00 O (gL T u2.i u2.op++X) 57 [.ptr 0 0,.int .i64 2,.str Zex]=some (.bool false,gL T u2.i u2.op++X):=λhe1 he2 X hX=>ZhK p1 (o2 he1 he2) ((Z4Y hT (o2 he1 he2).ok he2 rfl).trans h2) hX
   clear p1 p2 p3 p4 k1 k2 k3 hb hc hgb hkb hks hr0 hr1
   refine MemXQ.conv (r:=.agg [.int .i64 10,.str [],.str [],.int .i64 0,exA [.mk eo en et ek],stA tl,.nslice]) ?_ (λ_ _ _ h=>Z8Y (λ_ h=>h) (λ_ h=>h) (λ_ h=>Z2o h) h)
   refine Z0w Zro 3 follows Z05 hO Tryz.func88 rfl ?_
   rw (occs:=.pos [1]) [Z0c h0]
   simp only[gL,LV,Ex.cells,stA,Y04,Y05]at qb qk qm⊢
   repeat' ((conv=>whnf);first|(exact Or.inl rfl)|(refine Or.inr ?_)|(refine exG (qb _ rfl) (λhd=>?_) (λe1=>?_))|(refine exG (qk e1 _ rfl) (λhd=>?_) (λe2=>?_))|refine exI (qm e1 e2 _ rfl) ?_|refine stp ?_|with_reducible apply Z01<;>intro h)
   all_goals (conv=>whnf)
   all_goals exact⟨[11,12,13,14,15],M11,rfl,(by refine Z0G ?_ ?_ ?_<;>first|rfl|exact e2),rfl,rfl,.inr rfl⟩
  |true =>
   have o3:u1.err=0->u2.err=0->GOK T (Z02 u2):=λhe1 he2=>(o2 he1 he2).go (Z0b (o2 he1 he2).ok h2) (Z0q u2) he2
   have i3:u1.err=0->i0<=(Z02 u2).i:=λhe=>Y06 (i2 he) (Nat.le_succ _)
   have qm:u1.err=0->u2.err=0->∀X,Z08 Z0z X=true->Z06 Y00 O (gL T u2.i u2.op++X) 57 [.ptr 0 0,.int .i64 2,.str Zex]=some (.bool true,gL T (u2.i+1) u2.op++X):=λhe1 he2 X hX=>Znk p1 (o2 he1 he2) ((Z4Y hT (o2 he1 he2).ok he2 rfl).trans h2) (λu hu=>(Z9V (s:=Z02 u2) he2 u hu).elim) hX
   cases h3:isF T (Z02 u2) kIf with
   |true =>
    have hE2:Z9Z T blk stm u2=([(stm (Z02 u2)).1],(stm (Z02 u2)).2):=by unfold Z9Z;rw[h2,if_pos rfl,h3,if_pos rfl]
    rw[hE2]at hE
    cases hE
    have qn:u1.err=0->u2.err=0->∀X,Z08 Z0z X=true->Z06 Y00 O (gL T (u2.i+1) u2.op++X) 57 [.ptr 0 0,.int .i64 2,.str kIf]=some (.bool true,gL T (u2.i+1+1) u2.op++X):=λhe1 he2 X hX=>Znk p1 (o3 he1 he2) ((Z4Y hT (o3 he1 he2).ok he2 rfl).trans h3) (λu hu=>(Z9V (s:=Z02 (Z02 u2)) he2 u hu).elim) hX
    have qc:u1.err=0->u2.err=0->∀X,Z08 Z0z X=true->Z06 Y00 O (gL T (u2.i+1+1) u2.op++X) 88 [.ptr 0 0]=some (.agg (stm (Z02 u2)).1.cells,gB T (stm (Z02 u2)).2++X):=λhe1 he2 X hX =>
     Z4Z p4 () (Z02 (Z02 u2)) X ((o3 he1 he2).go (Z0b (o3 he1 he2).ok h3) (Z0q _) he2) ⟨Z02 u2,rfl,o3 he1 he2,i3 he1,h3⟩ (λu hu=>hu) hX
    clear p1 p2 p3 p4 k1 k2 k3 hb hc hgb hkb hks hr0 hr1 hE2
    generalize stm (Z02 u2)=r3 at *
    obtain⟨⟨y1,y2,y3,y4,y5,y6,y7⟩,u4⟩:=r3
    refine Z0w Zro 3 follows Z05 hO Tryz.func88 rfl ?_
    rw (occs:=.pos [1]) [Z0c h0]
    simp only[gL,LV,Ex.cells,St.cells,exA,stA,Y04,Y05]at qb qk qm qn qc⊢
    repeat' ((conv=>whnf);first|(exact Or.inl rfl)|(refine Or.inr ?_)|(refine exG (qb _ rfl) (λhd=>?_) (λe1=>?_))|(refine exG (qk e1 _ rfl) (λhd=>?_) (λe2=>?_))|refine exI (qm e1 e2 _ rfl) ?_|refine exI (qn e1 e2 _ rfl) ?_|(refine exG (qc e1 e2 _ rfl) (λhd=>?_) (λe3=>?_))|refine stp ?_|with_reducible apply Z01<;>intro h)
    all_goals (conv=>whnf)
    all_goals exact⟨[11,12,13,14,15],M11,rfl,(by refine Z0G ?_ ?_ ?_<;>first|rfl|exact e3),rfl,rfl,.inr rfl⟩
   |false =>
    have hE2:Z9Z T blk stm u2=blk (Z02 u2):=by unfold Z9Z;rw[h2,if_pos rfl,h3];rfl
    rw[hE2]at hE
    have qn:u1.err=0->u2.err=0->∀X,Z08 Z0z X=true->Z06 Y00 O (gL T (u2.i+1) u2.op++X) 57 [.ptr 0 0,.int .i64 2,.str kIf]=some (.bool false,gL T (u2.i+1) u2.op++X):=λhe1 he2 X hX=>ZhK p1 (o3 he1 he2) ((Z4Y hT (o3 he1 he2).ok he2 rfl).trans h3) hX
    have qc:u1.err=0->u2.err=0->∀X,Z08 Z0z X=true->Z06 Y00 O (gL T (u2.i+1) u2.op++X) 59 [.ptr 0 0]=some (stA els,gB T E++X):=λhe1 he2 X hX=>by
     have h:=Z4Z p3 () (Z02 u2) X (o3 he1 he2) ⟨o3 he1 he2,i3 he1⟩ (by simp only[hE];exact λu hu=>hu) hX
     simp only[hE]at h
     exact h
    clear p1 p2 p3 p4 k1 k2 k3 hb hc hgb hkb hks hr0 hr1 hE2 hE
    refine Z0w Zro 3 follows Z05 hO Tryz.func88 rfl ?_
    rw (occs:=.pos [1]) [Z0c h0]
    simp only[gL,LV,Ex.cells,St.cells,exA,stA,Y04,Y05]at qb qk qm qn qc⊢
    repeat' ((conv=>whnf);first|(exact Or.inl rfl)|(refine Or.inr ?_)|(refine exG (qb _ rfl) (λhd=>?_) (λe1=>?_))|(refine exG (qk e1 _ rfl) (λhd=>?_) (λe2=>?_))|refine exI (qm e1 e2 _ rfl) ?_|refine exI (qn e1 e2 _ rfl) ?_|(refine exG (qc e1 e2 _ rfl) (λhd=>?_) (λe3=>?_))|refine stp ?_|with_reducible apply Z01<;>intro h)
    all_goals (conv=>whnf)
    all_goals exact⟨[11,12,13,14,15],M11,rfl,(by refine Z0G ?_ ?_ ?_<;>first|rfl|exact e3),rfl,rfl,.inr rfl⟩
 exact GX.of λ_=>main _ _ rfl
end
end Go.Proofs.YtneoiadnbikciaaGreatDoor.lex

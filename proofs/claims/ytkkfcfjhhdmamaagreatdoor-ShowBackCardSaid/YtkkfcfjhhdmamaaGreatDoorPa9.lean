/-
  Texts of this proof, one behind the other (part 9).
-/
import Derived.Test.YtkkfcfjhhdmamaaGreatDoorPa8
set_option linter.unusedVariables false
set_option linter.unusedSimpArgs false
set_option maxRecDepth 100000
set_option maxHeartbeats 4000000
open Go.Proofs.Tryz renaming prog → Y00,underlying28 → Y0t
open List renaming length_nil → Y01,length_cons → Y06,append_nil → Y09,length_append → Y0d,cons_ne_nil → Y0e,nil_append → Y0f,cons_append → Y0g,mem_cons_self → Y0i,append_assoc → Y0j,mem_cons_of_mem → Y0l,take_length → Y0p,mem_singleton → Y0q,drop_eq_getElem_cons → Y0r,drop_length → Y0s
open And renaming intro → Y02
open Go.Abs.FgLK renaming mk → Y03
open Nat renaming lt_succ_self → Y04,le_refl → Y0a,beq → Y0c,zero_le → Y0h
open Go.Abs.Wk renaming int → Y05,ptr → Y07,noref → Y0b
open Go.Abs.BodyGe renaming cellsL → Y08,pre → Y0k
open Bool renaming false_eq_true → Y0m,and_true → Y0n,true_and → Y0o
section
namespace Go.Abs
open Go.RowKit
theorem Zrp{P:Program}{d t:Nat}{k:IntKind}(h:P.underlying t=some (.int k))(a b:Int):eqB P (d+1) t (.int k a) (.int k b)=some (a==b):=by simp[eqB,aEq,h]
theorem Zro{P:Program}{d t:Nat}(h:P.underlying t=some .string)(a b:List UInt8):eqB P (d+1) t (.str a) (.str b)=some (a==b):=by simp[eqB,aEq,h]
theorem ZnH{P:Program}{d t:Nat}(h:P.underlying t=some .bool)(a b:Bool):eqB P (d+1) t (.bool a) (.bool b)=some (a==b):=by simp[eqB,aEq,h]
theorem ZcA {P : Program} {e : TypeId -> AV -> AV -> Option Bool} {t off : Nat} {fs : List (TypeId × Nat)} {xs ys : List AV} {a b : AV} {p q : Bool} (ht : Z4H P t = some false) (hx : xs[off]? = some a) (hy : ys[off]? = some b) (h : e t a b = some p) (h2 : Zcz e P fs xs ys = some q) :
  Zcz e P ((t,off)::fs) xs ys=some (p&&q):=by
 simp only[Zcz,Z80,ht,hx,hy,h,h2]
theorem Zrq{P:Program}{d t:Nat}{fs:List (TypeId×Nat)}{xs ys:List AV}(hf:Z4p P t=some fs):eqB P (d+1) t (.agg xs) (.agg ys)=Zcz (eqB P d) P fs xs ys:=by simp only[eqB,hf]
theorem Zo7{P:Program}{t:TypeId}{fs:List (TypeId×Nat)}{xs ys:List AV}{r:Bool}(hg:P.eqGuardType P.depth t=false)(hf:Z4p P t=some fs)(h:Zcz (eqB P 9999) P fs xs ys=some r):ZcP P t xs ys=some r:=by
 unfold ZcP
 rw[hg,if_neg (by decide)]
 exact (Zrq (d:=9999) hf).trans h
end Go.Abs
end
namespace Go.Proofs.YtkkfcfjhhdmamaaGreatDoor.lex
open Go.Abs Go.RowKit
section
variable {gl:Z0l}
theorem Zn7(e:Ex)(l:Int)(hok:okE e)(hl0:0<=l)(hl1:l<=1048576):ValOK Y00 gl 8 [.agg e.cells,.int .i64 l] (.bool (decide (0<=Z1y e l))):=by
 have hO:=Z7C (P:=Y00) (gl:=gl) (l:=[(31,[.agg e.cells,.int .i64 l],.int .i64 (Z1y e l))]) ⟨by have:=Z4q e;simpa[refsL,Z1m]using this,Zfj _ e l (Y0a _) hok hl0 hl1,trivial⟩
 have q:∀H,Z03 Y00 (Zsi [(31,[.agg e.cells,.int .i64 l],.int .i64 (Z1y e l))]) H 31 [.agg e.cells,.int .i64 l]=some (.int .i64 (Z1y e l),H):=λH=>ZrR (by kernel_rfl) Z7R
 obtain⟨op,num,name,kids⟩:=e
 simp only[Ex.cells]at *
 refine Z0d follows Z05 hO Tryz.func8 rfl ?_
 repeat' ((conv=>whnf);first|refine exI (q _) ?_|refine stp ?_|with_reducible apply Z01<;>intro h)
 all_goals rfl
def Z1u(e:Ex):Int:=if 2000<Z0C e\/32<Z0P e then 3 else if Z0p e then 0 else 2
theorem Zbv(e:Ex)(hok:okE e)(hs:Z0C e<=1048576):ValOK Y00 gl 14 [.agg e.cells] (.int .i64 (Z1u e)):=by
 have hd:=Zbt e
 obtain⟨O,hO,p1,p2,p3,-⟩:=fams (P:=Y00) (gl:=gl) [famE (g:=50) (by kernel_rfl) (λk=>.int .i64 (Z0C k)) [e] λk hk=>by rw[Y0q.1 hk];exact ZbV _ e (Y0a _) hs,
  famE (g:=51) (by kernel_rfl) (λk=>.int .i64 (Z0P k)) [e] λk hk=>by rw[Y0q.1 hk];exact ZcC _ e (Y0a _) hs,
  famE (g:=52) (by kernel_rfl) (λk=>.bool (Z0p k)) [e] λk hk=>by rw[Y0q.1 hk];exact Zc0 _ e (Y0a _) hok] rfl
 have q1:∀H,Z03 Y00 O H 50 [.agg e.cells]=some (.int .i64 (Z0C e),H):=p1 e (by show e∈[e];simp)
 have q2:∀H,Z03 Y00 O H 51 [.agg e.cells]=some (.int .i64 (Z0P e),H):=p2 e (by show e∈[e];simp)
 have q3:∀H,Z03 Y00 O H 52 [.agg e.cells]=some (.bool (Z0p e),H):=p3 e (by show e∈[e];simp)
 clear p1 p2 p3
 unfold Z1u
 generalize Z0C e=n at *
 generalize Z0P e=d at *
 generalize Z0p e=r at *
 obtain⟨op,num,name,kids⟩:=e
 simp only[Ex.cells]at *
 refine Z0d follows Z05 hO Tryz.func14 rfl ?_
 repeat' ((conv=>whnf);first|refine exI (q1 _) ?_|refine exI (q2 _) ?_|refine exI (q3 _) ?_|refine stp ?_|with_reducible apply Z01<;>intro h)
 all_goals (show AV.int _ _=AV.int _ _;congr 1;clear q1 q2 q3 hO;simp only[decide_eq_true_eq,decide_eq_false_iff_not,Bool.not_eq_true',Bool.not_eq_false']at *)
 all_goals (repeat' split)
 all_goals (first|rfl|omega|(simp_all;done)|(exfalso;simp_all;omega))
end
section
def rVE:TvE runLives.gl where
 σ:=Unit
 Mem:=λ_=>[]
 k:=0
 len:=λ_=>rfl
 same:=λ_=>⟨trivial,rfl,rfl⟩
 evo:=λ_ _=>rfl
 inj:=λ_ _ _=>rfl
 I:=λd s m=>0<=d/\d+m<=1152921504606846976
 up:=λd s m h0 h=>⟨h0,by have:=h.2;omega⟩
 less:=λd s m h=>⟨h.1,by have:=h.2;omega⟩
 bnd:=λd s m h=>⟨h.1,by have:=h.2;omega⟩
 gE:=68
 cE:=[]
 hE:=rE
 bodyE:=by kernel_rfl
 wkE:=trivial
 okE:=λe rest d s m ho _=>Z7H (Zdo e rest d ho) rfl
 downE:=λe d s m h _=>⟨by have:=h.1;omega,by have:=h.2;omega⟩
theorem Zrj(l:List Ex)(d:Int)(hok:okL l)(hl:l.length<=9223372036854775807)(h0:0<=d)(h1:d+sizeL l<=1152921504606846976):ValOK Y00 runLives.gl 81 [exA l,.int .i64 d,.func (.func 68) [] []] (.bool (rightL l)):=by
 have:=TvE.exprs rVE follows (sizeL l) l d () 0 (Y0a _) hok hl ⟨h0,h1⟩
 have e:(goL rVE.hE l d ()).1=rightL l:=by
  have:=goL_r l d ()
  show (goL rE l d ()).1=_
  rw[this]
 rw[e]at this
 exact ZaO this rfl
end
section
def Z9L(n:Nat):Z00:=[⟨true,0,0,.cells [.func (.func 93) [] [.ptr 1 0]] 102⟩,⟨true,1,0,.cells [.int .i64 n] 3⟩]
theorem keep1_ok(cs:List AV)(d:Int)(n:Nat)(hn:n<=2000):Z1b Y00 runLives.gl 82 [.rp cs,.int .i64 d,.ptr 0 0] (Z9L n) (.bool (decide (((n+1:Nat):Int)<=2000)&&decide (d<=32))) (Z9L (n+1)):=by
 refine Zbk (k:=2) follows Z05 (Z0a follows Z05 Z0Q 3) rfl Tryz.func82 rfl (Z0r (isC:=λ_=>false) 3) ?_
 repeat' ((conv=>whnf);first|refine stp ?_|with_reducible apply Z01<;>intro h)
 all_goals (conv=>whnf)
 ·exact⟨by rw[h];rfl,rfl,rfl⟩
 ·exact⟨by rw[h];rfl,rfl,rfl⟩
theorem ZjV{n m:Nat}(h:Z9L n=Z9L m):n=m:=by
 simp only[Z9L,List.cons.injEq,AObj.mk.injEq,ABody.cells.injEq,AV.int.injEq,and_true,true_and]at h
 omega
theorem ZtG(e:Ex)(rest:List AV)(d:Int)(s:Nat)(h:s<=2000):Z1b Y00 runLives.gl 82 ([.rp (e.cells++rest),.int .i64 d]++[.ptr 0 0]) (Z9L s) (.bool (lex.cE e d s).1) (Z9L (lex.cE e d s).2) :=
 keep1_ok (e.cells++rest) d s h
theorem ZnV(e:Ex)(d:Int)(s:Nat)(h:0<=d/\d<=33/\s<=2000)(ht:(lex.cE e d s).1=true):0<=d+1/\d+1<=33/\(lex.cE e d s).2<=2000 :=
 have h2:s+1<=2000/\d+1<=33:=(ZcG d s).1.1 ht
 have h3:0<=d:=h.1
 ⟨by clear h ht h2;omega,h2.2,h2.1⟩
def ceV:TvE runLives.gl where
 σ:=Nat
 Mem:=Z9L
 k:=2
 len:=λ_=>rfl
 same:=λs=>⟨⟨⟨rfl,rfl,rfl,rfl,Y08 ⟨Wk.func trivial ⟨Y07 rfl rfl,trivial⟩,trivial⟩⟩,hbp,trivial⟩,rfl,rfl⟩
 evo:=λ_ _=>rfl
 inj:=λ_ _ h=>ZjV h
 I:=λd s m=>0<=d/\d<=33/\s<=2000
 up:=λd s m h0 h=>⟨h0,by have:=h.2.1;omega,h.2.2⟩
 less:=λd s m h=>h
 bnd:=λd s m h=>⟨h.1,by have:=h.2.1;omega⟩
 gE:=82
 cE:=[.ptr 0 0]
 hE:=lex.cE
 bodyE:=by kernel_rfl
 wkE:=⟨Y07 rfl rfl,trivial⟩
 okE:=λe rest d s m _ h=>by
  exact ZtG e rest d s h.2.2
 downE:=λe d s m h ht=>ZnV e d s h ht
def ceH(cs:List AV)(n:Nat):Z00:=[⟨true,0,0,.cells cs 28⟩,⟨true,1,0,.cells [.int .i64 n] 3⟩,⟨true,2,0,.cells cs 28⟩,⟨true,3,0,.cells [.func (.func 93) [] [.ptr 1 0]] 102⟩]
theorem ZrO(e:Ex)(hok:okE e):Z1b Y00 runLives.gl 81 [.slice 2 0 1 1 4,.int .i64 1,.func (.func 82) [] [.ptr 3 0]] (ceH e.cells 0) (.bool (goL cE [e] 1 0).1) (ceH e.cells (goL cE [e] 1 0).2):=by
 have hM:=TvE.exprs ceV follows (sizeL [e]) [e] 1 (0:Nat) 0 (Y0a _) (by simp only[okL];exact⟨hok,trivial⟩) (by simp) ⟨by omega,by omega,by omega⟩
 have hM:Z1b Y00 runLives.gl 81 [exA [e],.int .i64 1,.func (.func 82) [] [.ptr 0 0]] (Z9L 0) (.bool (goL cE [e] 1 0).1) (Z9L (goL cE [e] 1 0).2):=hM
 simp only[exA,exC,Y09]at hM
 generalize hb:(goL cE [e] 1 0).1=b at *
 generalize hn:(goL cE [e] 1 0).2=n at *
 have h:=Z9C (m:=[3,1]) (n:=3) (Hc:=ceH e.cells 0) (cargs:=[.slice 2 0 1 1 4,.int .i64 1,.func (.func 82) [] [.ptr 3 0]]) hM ?_ ?_ rfl rfl rfl rfl rfl rfl
 · have e1:Zg8 [3,1] (Z9L n) 0 (ceH e.cells 0)=ceH e.cells n:=rfl
   rw[e1]at h
   exact h
 · obtain⟨op,num,name,kids⟩:=e
   simp only[Ex.cells];rfl
 ·exact⟨⟨rfl,rfl,rfl,rfl,Y08 ⟨Wk.func trivial ⟨Y07 rfl rfl,trivial⟩,trivial⟩⟩,hbp,trivial⟩
section
open Classical
noncomputable def ceF(cs:List AV)(r:Bool):Nat->List AV->Option AV:=λf a=>if f=81/\a=[.rs 1 4 cs,.int .i64 1,.func (.func 68) [] []] then some (.bool r) else none
end
theorem Zmb(e:Ex):((goL cE [e] 1 0).1=true ↔ ¬(2000<Z0C e\/32<Z0P e)):=by
 rw[(goL_c [e] 1 0 (by omega) (by omega)).1]
 simp only[sizeL,deepL];omega
theorem Zij(e:Ex)(hok:okE e)(hs:Z0C e<=1048576):ValOK Y00 runLives.gl 48 [.agg e.cells] (.int .i64 (Z1u e)):=by
 have hI:=ZrO e hok
 have hw:=Zmb e
 have hr:ValOK Y00 runLives.gl 81 [.rs 1 4 e.cells,.int .i64 1,.func (.func 68) [] []] (.bool (Z0p e)):=by
  have h:=Zrj [e] 1 (by simp only[okL];exact⟨hok,trivial⟩) (by simp) (by omega) (by simp only[sizeL];omega)
  simpa only[exA,exC,Y09,List.length_singleton,rightL,Y0n]using h
 have hZ:=Z1w (P:=Y00) (gl:=runLives.gl) (F:=ceF e.cells (Z0p e)) λf args r h=>by
  unfold ceF at h
  split at h
  · rename_i h2
    obtain⟨rfl,rfl⟩:=h2
    simp only[Option.some.injEq]at h
    subst h
    exact⟨rfl,hr⟩
  ·cases h
 unfold Z1u
 generalize hb:(goL cE [e] 1 0).1=b at *
 generalize hn:(goL cE [e] 1 0).2=n at *
 have hO1:=Z2o (P:=Y00) (gl:=runLives.gl) (I:=Unit) (G:=λ_=>True) (fF:=λ_=>81) (fA:=λ_=>[.slice 2 0 1 1 4,.int .i64 1,.func (.func 82) [] [.ptr 3 0]]) (fH:=λ_=>ceH e.cells 0) (fR:=λ_=>.bool b) (fO:=λ_=>ceH e.cells n) λ_ _=>hI
 have hO:=Z1T hO1 hZ
 have q1:Z03 Y00 (Z4f (orcI (λ_:Unit=>True) (λ_=>81) (λ_=>[.slice 2 0 1 1 4,.int .i64 1,.func (.func 82) [] [.ptr 3 0]]) (λ_=>ceH e.cells 0) (λ_=>.bool b) (λ_=>ceH e.cells n)) (Z9r (ceF e.cells (Z0p e)))) (ceH e.cells 0) 81 [.slice 2 0 1 1 4,.int .i64 1,.func (.func 82) [] [.ptr 3 0]]=some (.bool b,ceH e.cells n) :=
  callOr1 (by kernel_rfl) (ZfD (λ_ _ _ _ _ _ _=>⟨rfl,rfl⟩) (by kernel_rfl) () trivial rfl rfl rfl)
 have q2:Z03 Y00 (Z4f (orcI (λ_:Unit=>True) (λ_=>81) (λ_=>[.slice 2 0 1 1 4,.int .i64 1,.func (.func 82) [] [.ptr 3 0]]) (λ_=>ceH e.cells 0) (λ_=>.bool b) (λ_=>ceH e.cells n)) (Z9r (ceF e.cells (Z0p e)))) (ceH e.cells n) 81 [.slice 2 0 1 1 4,.int .i64 1,.func (.func 68) [] []]=some (.bool (Z0p e),ceH e.cells n):=by
  refine Z6l (by kernel_rfl) (Z3Q λ_ _ _ h=>?_) (Z2u (fa:=[.rs 1 4 e.cells,.int .i64 1,.func (.func 68) [] []]) (by kernel_rfl) ?_ ?_)
  ·simp at h
  ·obtain⟨op,num,name,kids⟩:=e;rfl
  ·unfold ceF;rw[if_pos ⟨rfl,rfl⟩]
 generalize Z4f (orcI (λ_:Unit=>True) (λ_=>81) (λ_=>[.slice 2 0 1 1 4,.int .i64 1,.func (.func 82) [] [.ptr 3 0]]) (λ_=>ceH e.cells 0) (λ_=>.bool b) (λ_=>ceH e.cells n)) (Z9r (ceF e.cells (Z0p e)))=O at *
 clear hI hr hZ hO1 hn hb
 generalize Z0C e=sz at *
 generalize Z0P e=dp at *
 generalize Z0p e=r at *
 obtain⟨op,num,name,kids⟩:=e
 simp only[Ex.cells]at *
 refine Z3a (λg=>Y0c g 81) 2 follows Z05 hO Tryz.func48 rfl ?_
 repeat' ((conv=>whnf);first|refine exI q1 ?_|refine exI q2 ?_|refine stp ?_|with_reducible apply Z01<;>intro h)
 all_goals (conv=>whnf)
 all_goals (show AV.int _ _=AV.int _ _;congr 1;clear q1 q2 hO;subst_vars)
 all_goals (by_cases hq:2000<sz\/32<dp<;>cases r<;>simp_all)
end
section
def dcT(d:Dc):List UInt8:=(if d.plain then [112,108,97,105,110,32] else [115,104,97,114,101,100,32])++(d.name++([32,61,32]++(Zd2 d.val++[59,10])))
def Ze4:List Dc->List UInt8
 |[]=>[]
 |d::l=>dcT d++Ze4 l
def prT(p:Pr):List UInt8:=Ze4 p.decls++Zdd p.threads
end
section
theorem Zlp(l:List St)(i:Nat)(h1:rightSL l=true)(h2:rgSL l)(h3:okSL l)(h4:l.length<=9223372036854775807)(h5:i+1+deepSL l<=37):Z5n l i :=
 Zhe l i (by omega) h4 λx hx=>⟨ZbQ _ x (Y0a _) (Z7y h1 x hx) (Z4c h2 x hx) (Z2O h3 x hx) (i+1) (by have:=Z7T l x hx;omega),Zgl x _⟩
theorem ZfB{e:Ex}(h:Z1u e=0):Z0p e=true:=by
 unfold Z1u at h
 split at h
 ·cases h
 · split at h
   ·assumption
   ·cases h
theorem ZnF(e:Ex)(hok:okE e)(hg:rgE e)(hs:Z0C e<=1048576)(hb:Z1u e=0->(wrE e).length<=1073741824):ValOK Y00 rgl 13 [.agg e.cells] (.tuple [.str (if Z1u e=0 then wrE e else []),.int .i64 (Z1u e)]):=by
 have hch:=Zij e hok hs
 by_cases hc:Z1u e=0
 · have g:Z3F e:=⟨ZfB hc,hg⟩
   rw[if_pos hc]
   rw[hc]at hch⊢
   obtain⟨O,hO,⟨p1,-⟩,⟨p2,-⟩⟩:=Z13 (P:=Y00) (gl:=rgl) [wmE.fam] [{ I:=Unit,f:=48,G:=(λ_=>True),A:=(λ_=>[.agg e.cells]),R:=(λ_=>.int .i64 0),body:=(by kernel_rfl),inj:=(λ_ _ _ _ _=>rfl),ok:=(λ_ _=>⟨Z4q e,hch⟩) }] rfl
   have q2:∀H,Z03 Y00 O H 48 [.agg e.cells]=some (.int .i64 0,H):=p2 () trivial
   obtain⟨w,hwe⟩:∃w,wrE e=w:=⟨_,rfl⟩
   have hwn:w≠[]:=by rw[<- hwe];exact ZfZ g.1
   have hb:=hb hc
   have q1:=λ{b fb:Nat} {H:Z00} {rest:List AV} {d:Int} hb y1 y2 y3 y4=>e0 p1 g hwe (b:=b) (fb:=fb) (H:=H) (rest:=rest) (d:=d) hb y1 y2 y3 y4
   rw[hwe]at hb⊢
   clear p1 p2 hch hc hwe g hok hg hs
   have hlw:w.length<=1099511627776:=by omega
   obtain⟨w0,w1,rfl⟩:∃c t,w=c::t:=by cases w with|nil=>exact absurd rfl hwn|cons c t=>exact⟨c,t,rfl⟩
   obtain⟨eo,en,es_,ek⟩:=e
   simp only[Ex.cells]at *
   refine Z3a isX 1 follows Z05 hO Tryz.func13 rfl ?_
   repeat' ((conv=>whnf);first|with_reducible refine exI (q2 _) ?_|(refine Z8y (q1 ?_ rfl rfl rfl rfl) ?_;(exact leS))|refine exI (Zg3 (s:=w0::w1) rfl rfl rfl hwn hlw rfl) ?_|refine stp ?_|with_reducible apply Z01<;>intro h)
   all_goals rfl
 · rw[if_neg hc]
   obtain⟨O,hO,p2,-⟩:=fams (P:=Y00) (gl:=rgl) [{ I:=Unit,f:=48,G:=(λ_=>True),A:=(λ_=>[.agg e.cells]),R:=(λ_=>.int .i64 (Z1u e)),body:=(by kernel_rfl),inj:=(λ_ _ _ _ _=>rfl),ok:=(λ_ _=>⟨Z4q e,hch⟩) }] rfl
   have q2:∀H,Z03 Y00 O H 48 [.agg e.cells]=some (.int .i64 (Z1u e),H):=p2 () trivial
   clear p2 hch
   generalize Z1u e=c at *
   have e1:(c != 0)=true:=by simpa using hc
   obtain⟨eo,en,es_,ek⟩:=e
   simp only[Ex.cells]at *
   refine Z0d follows Z05 hO Tryz.func13 rfl ?_
   repeat' ((conv=>whnf);first|with_reducible refine exI (q2 _) ?_|refine stp ?_|with_reducible apply Z01<;>intro h)
   all_goals rfl
end
section
def WP(cs:List AV):List UInt8->Z00
 |[]=>[⟨true,0,0,.cells [.nptr,.nslice,.int .i64 0] tW⟩,⟨true,1,0,.cells cs 25⟩]
 |x::s=>[⟨true,0,0,.cells [.ptr 0 0,.slice 2 0 (x::s).length (x::s).length 1,.int .i64 0] tW⟩,⟨true,1,0,.cells cs 25⟩,⟨true,2,0,.cells (byt (x::s)) tB⟩]
theorem fgP {t0 tm : Tr} {H : Z00} {l : List (Nat × AV)} {s1 s : List UInt8} {cs : List AV} {v c b f0 f1 f2 : Nat} (h : ZeS t0 tm = true) (e : s1 = s) (hs : s ≠ []) (h0 : H[v]? = some ⟨true, f0, 0, .cells [.ptr v 0, .slice b 0 s1.length s1.length 1, .int .i64 0] tW⟩) (h2 : H[c]? = some ⟨true, f2, 0, .cells cs 25⟩) (h1 : H[b]? = some ⟨true, f1, 0, .cells (byt s1) tB⟩)
  (hcs:refsL cs []=[]) (hn:Z0F ([v,c,b].map (Z0O H))=true) (hsl:SlotsGe [v,c,b] tm l):FgL t0 tm H l (WP cs s):=by
 subst e
 cases s1 with
 |nil=>exact absurd rfl hs
 |cons x s =>
  refine FgL.mk [v,c,b] h hsl ?_ hn
  exact⟨by rw[h0];exact⟨rfl,rfl,rfl,rfl,Y08 ⟨Y07 rfl rfl,Wk.slice rfl rfl rfl (Y0a _) (Y0a _) rfl,Y05 rfl,trivial⟩⟩,by rw[h2];exact⟨rfl,rfl,rfl,rfl,Y0k (rest:=[]) (by simp) hcs⟩,by rw[h1];exact⟨rfl,rfl,rfl,rfl,Y0k (rest:=[]) (by simp) (Z77 _ _)⟩,trivial⟩
theorem Zvo {t0 tm : Tr} {H : Z00} {l : List (Nat × AV)} {cs : List AV} {v c f0 f2 : Nat} (h : ZeS t0 tm = true) (h0 : H[v]? = some ⟨true, f0, 0, .cells [.nptr, .nslice, .int .i64 0] tW⟩) (h2 : H[c]? = some ⟨true, f2, 0, .cells cs 25⟩)
  (hcs:refsL cs []=[]) (hn:Z0F ([v,c].map (Z0O H))=true) (hsl:SlotsGe [v,c] tm l):FgL t0 tm H l (WP cs []):=by
 refine FgL.mk [v,c] h hsl ?_ hn
 exact⟨by rw[h0];exact⟨rfl,rfl,rfl,rfl,Y08 ⟨Y0b rfl,Y0b rfl,Y05 rfl,trivial⟩⟩,by rw[h2];exact⟨rfl,rfl,rfl,rfl,Y0k (rest:=[]) (by simp) hcs⟩,trivial⟩
theorem ZmI(p:Pr)(hok:okP p)(hg:rgP p)(hs:Z0x p.threads<=1000000)(hb:Z0y p=0->(prT p).length<=1073741824):ValOK Y00 rgl 9 [p.av] (.tuple [.str (if Z0y p=0 then prT p else []),.int .i64 (Z0y p)]):=by
 have hch:=Zbu p hok hs
 by_cases hc:Z0y p=0
 · obtain⟨c1,c2,c3,c4⟩:=Z3d hc
   have hb:=hb hc
   rw[if_pos hc]
   rw[hc]at hch⊢
   have hbl:∀l∈p.threads,Z5n l 0:=λl hl=>by
    have h1:=Z2N hok.2.1 l hl
    have h3:rightSL l=true:=by
     have:∀(t:List (List St)),Z17 t=true->∀l∈t,rightSL l=true:=by
      intro t
      induction t with
      |nil=>intro _ l hl;cases hl
      |cons x t ih =>
       intro h l hl
       simp only[Z17,Bool.and_eq_true]at h
       rcases List.mem_cons.1 hl with rfl|hl
       ·exact h.1
       ·exact ih h.2 l hl
     exact this _ c4 l hl
    have h4:deepSL l<=Z11 p.threads:=by
     have:∀(t:List (List St)),∀l∈t,deepSL l<=Z11 t:=by
      intro t
      induction t with
      |nil=>intro l hl;cases hl
      |cons x t ih =>
       intro l hl
       simp only[Z11]
       rcases List.mem_cons.1 hl with rfl|hl
       ·omega
       ·have:=ih l hl;omega
     exact this _ l hl
    exact Zlp l 0 h3 (Z6K hg.2 l hl) h1.1 h1.2 (by omega)
   have hdc:∀d∈p.decls,(0<=d.val/\rgI d.val)/\d.name≠[]:=λd hd=>by
    have h1:=List.all_eq_true.1 c3 d hd
    simp only[dcB,Bool.and_eq_true,decide_eq_true_eq]at h1
    exact⟨⟨h1.2,hg.1 d hd⟩,Z8F h1.1⟩
   obtain⟨O,hO,⟨p1,p3,-⟩,⟨p2,p4,-⟩⟩:=Z13 (P:=Y00) (gl:=rgl) [wmPut.fam,(Zu6 (λl j=>l∈p.threads/\j=0) (λl j h=>by rw[h.2];exact hbl l h.1)).fam] [{ I:=Unit,f:=32,G:=(λ_=>True),A:=(λ_=>[p.av]),R:=(λ_=>.int .i64 0),body:=(by kernel_rfl),inj:=(λ_ _ _ _ _=>rfl),ok:=(λ_ _=>⟨rfl,hch⟩) },ZoZ] rfl
   have q2:∀H,Z03 Y00 O H 32 [p.av]=some (.int .i64 0,H):=p2 () trivial
   have q4:∀n:Int,0<=n/\rgI n->∀H,Z03 Y00 O H 34 [.int .i64 n,.int .i64 10]=some (.str (Zd2 n),H):=p4
   have q5:=λ(l:List St) (hl:l∈p.threads) {B:List UInt8} (hB:Z7n l 0=B) {s:List UInt8} {b c fb fc:Nat} {H:Z00} {rest:List AV} hs hb y2 y1 y3 y4 y5=>Z62 p3 (l,0) ⟨hl,rfl⟩ hB (A:=[stA l]) rfl (s:=s) (b:=b) (c:=c) (fb:=fb) (fc:=fc) (H:=H) (rest:=rest) (d:=0) rfl rfl hs hb y2 y1 y3 y4 y5
   clear p2 p3 p4 hch
   obtain⟨hok1,_,hok2⟩:=hok
   obtain⟨ds,ts⟩:=p
   have hdl:ds.length<=9223372036854775807:=hok1.1
   have htl0:ts.length<=9223372036854775807:=hok2
   simp only[Pr.av,prT]at *
   obtain⟨tot,htot⟩:∃tot,Ze4 ds++Zdd ts=tot:=⟨_,rfl⟩
   rw[htot]at hb⊢
   generalize hcs:[AV.rs ds.length 3 (dcC ds),AV.rs ts.length 1 (ts.map stA)]=cs at *
   have hcsr:∀cs:List AV,[AV.rs ds.length 3 (dcC ds),AV.rs ts.length 1 (ts.map stA)]=cs->refsL cs []=[]:=λcs h=>by rw[<- h];rfl
   refine Z3a isX 1 follows Z05 hO Tryz.func9 rfl ?_
   subst hcs
   repeat' ((conv=>whnf);first|with_reducible refine exI (q2 _) ?_|refine stp ?_|with_reducible apply Z01<;>intro h)
   conv=>whnf
   refine⟨Nat×List UInt8,(λp=>p.1<=ds.length/\(p.1≠0->p.2≠[])/\p.2++(Ze4 (ds.drop p.1)++Zdd ts)=tot),(λp=>[(1,.ptr 1 0),(5,.ptr 0 0),(17,.rs ds.length 3 (dcC ds)),(18,.int .i64 ds.length),(19,.int .i64 p.1)]),(λp=>WP [AV.rs ds.length 3 (dcC ds),AV.rs ts.length 1 (ts.map stA)] p.2),(λp=>ds.length-p.1),⟨(0,[]),⟨Y0h _,λh=>absurd rfl h,htot⟩,?_⟩,?_⟩
   ·(apply Zvo (v:=1) (c:=0);rotate_left;(focus (exact rfl));(focus (exact rfl));(focus (exact rfl));(focus (exact rfl));(focus (refine Y02 (Y07 rfl rfl) ?_;refine Y02 (Y07 rfl rfl) ?_;refine Y02 (Y0b rfl) ?_;refine Y02 (Y05 rfl) ?_;exact⟨Y05 rfl,trivial⟩));(focus (exact rfl)))
   rintro⟨i,acc⟩ ⟨h1,h2,h3⟩
   dsimp only at h1 h2 h3
   dsimp only
   by_cases hlt:i<ds.length
   · have c1:decide ((i:Int)<(ds.length:Int))=true:=by simpa using hlt
     have hx:=dc3 ds i hlt
     obtain⟨hd1,hd2⟩:=hdc ds[i] (Z0i hlt)
     have q4:=q4 _ hd1
     rw[Y0r hlt]at h3
     simp only[Ze4]at h3
     generalize ds[i]=d at *
     obtain⟨nm,pl,vl⟩:=d
     simp only[Dc.cells]at *
     clear htot q5 hd1
     cases pl
     · have hT:dcT ⟨nm,false,vl⟩=[115,104,97,114,101,100,32]++(nm++([32,61,32]++(Zd2 vl++[59,10]))):=by simp[dcT]
       rw[hT]at h3
       generalize Zd2 vl=dg at *
       have hf:List.flatten [[115,104,97,114,101,100,32],nm,[32,61,32],dg,[59,10]]=[115,104,97,114,101,100,32]++(nm++([32,61,32]++(dg++[59,10]))):=by simp
       have htl:=congrArg List.length h3
       simp only[Y0d,Y06,Y01]at htl
       cases acc with
       |nil =>
        repeat' ((conv=>whnf);first|refine exI hx ?_|with_reducible refine exI (q4 _) ?_|(refine Z8y (ZeA p1 [115,104,97,114,101,100,32] [nm,[32,61,32],dg,[59,10]] ([115,104,97,114,101,100,32]++(nm++([32,61,32]++(dg++[59,10])))) hf rfl (Y0e _ _) ?_ rfl rfl rfl rfl) ?_;(exact leS))|(with_reducible refine ixJ i rfl ?_ ?_;focus omega)|refine stp ?_|with_reducible apply Z01<;>intro h)
        conv=>whnf
        refine⟨(i+1,[115,104,97,114,101,100,32]++(nm++([32,61,32]++(dg++[59,10])))),⟨hlt,λ_=>Y0e _ _,by rw[<- h3];simp⟩,by show ds.length-(i+1)<ds.length-i;omega,?_⟩
        (apply fgP (v:=0) (c:=1);rotate_left;rotate_left;rotate_left;(focus (exact rfl));(focus (exact rfl));(focus (exact rfl));(focus (exact rfl));(focus (exact rfl));(focus (refine Y02 (Y07 rfl rfl) ?_;refine Y02 (Y07 rfl rfl) ?_;refine Y02 (Y0b rfl) ?_;refine Y02 (Y05 rfl) ?_;exact⟨Y05 rfl,trivial⟩));(focus (exact rfl));(focus (simp;done));(focus (simp;done)))
       |cons ac at_ =>
        repeat' ((conv=>whnf);first|refine exI hx ?_|with_reducible refine exI (q4 _) ?_|(refine Z0G (Z1S p1 [[115,104,97,114,101,100,32],nm,[32,61,32],dg,[59,10]] ([115,104,97,114,101,100,32]++(nm++([32,61,32]++(dg++[59,10])))) hf rfl ?_ ?_ rfl rfl rfl rfl rfl) ?_;(exact neS);(exact leS))|(with_reducible refine ixJ i rfl ?_ ?_;focus omega)|refine stp ?_|with_reducible apply Z01<;>intro h)
        conv=>whnf
        refine⟨(i+1,ac::at_++([115,104,97,114,101,100,32]++(nm++([32,61,32]++(dg++[59,10]))))),⟨hlt,λ_=>Y0e _ _,by rw[<- h3];simp⟩,by show ds.length-(i+1)<ds.length-i;omega,?_⟩
        (apply fgP (v:=0) (c:=1);rotate_left;rotate_left;rotate_left;(focus (exact rfl));(focus (exact rfl));(focus (exact rfl));(focus (exact rfl));(focus (exact rfl));(focus (refine Y02 (Y07 rfl rfl) ?_;refine Y02 (Y07 rfl rfl) ?_;refine Y02 (Y0b rfl) ?_;refine Y02 (Y05 rfl) ?_;exact⟨Y05 rfl,trivial⟩));(focus (exact rfl));(focus (simp;done));(focus (simp;done)))
     · have hT:dcT ⟨nm,true,vl⟩=[112,108,97,105,110,32]++(nm++([32,61,32]++(Zd2 vl++[59,10]))):=by simp[dcT]
       rw[hT]at h3
       generalize Zd2 vl=dg at *
       have hf:List.flatten [[112,108,97,105,110,32],nm,[32,61,32],dg,[59,10]]=[112,108,97,105,110,32]++(nm++([32,61,32]++(dg++[59,10]))):=by simp
       have htl:=congrArg List.length h3
       simp only[Y0d,Y06,Y01]at htl
       cases acc with
       |nil =>
        repeat' ((conv=>whnf);first|refine exI hx ?_|with_reducible refine exI (q4 _) ?_|(refine Z8y (ZeA p1 [112,108,97,105,110,32] [nm,[32,61,32],dg,[59,10]] ([112,108,97,105,110,32]++(nm++([32,61,32]++(dg++[59,10])))) hf rfl (Y0e _ _) ?_ rfl rfl rfl rfl) ?_;(exact leS))|(with_reducible refine ixJ i rfl ?_ ?_;focus omega)|refine stp ?_|with_reducible apply Z01<;>intro h)
        conv=>whnf
        refine⟨(i+1,[112,108,97,105,110,32]++(nm++([32,61,32]++(dg++[59,10])))),⟨hlt,λ_=>Y0e _ _,by rw[<- h3];simp⟩,by show ds.length-(i+1)<ds.length-i;omega,?_⟩
        (apply fgP (v:=0) (c:=1);rotate_left;rotate_left;rotate_left;(focus (exact rfl));(focus (exact rfl));(focus (exact rfl));(focus (exact rfl));(focus (exact rfl));(focus (refine Y02 (Y07 rfl rfl) ?_;refine Y02 (Y07 rfl rfl) ?_;refine Y02 (Y0b rfl) ?_;refine Y02 (Y05 rfl) ?_;exact⟨Y05 rfl,trivial⟩));(focus (exact rfl));(focus (simp;done));(focus (simp;done)))
       |cons ac at_ =>
        repeat' ((conv=>whnf);first|refine exI hx ?_|with_reducible refine exI (q4 _) ?_|(refine Z0G (Z1S p1 [[112,108,97,105,110,32],nm,[32,61,32],dg,[59,10]] ([112,108,97,105,110,32]++(nm++([32,61,32]++(dg++[59,10])))) hf rfl ?_ ?_ rfl rfl rfl rfl rfl) ?_;(exact neS);(exact leS))|(with_reducible refine ixJ i rfl ?_ ?_;focus omega)|refine stp ?_|with_reducible apply Z01<;>intro h)
        conv=>whnf
        refine⟨(i+1,ac::at_++([112,108,97,105,110,32]++(nm++([32,61,32]++(dg++[59,10]))))),⟨hlt,λ_=>Y0e _ _,by rw[<- h3];simp⟩,by show ds.length-(i+1)<ds.length-i;omega,?_⟩
        (apply fgP (v:=0) (c:=1);rotate_left;rotate_left;rotate_left;(focus (exact rfl));(focus (exact rfl));(focus (exact rfl));(focus (exact rfl));(focus (exact rfl));(focus (refine Y02 (Y07 rfl rfl) ?_;refine Y02 (Y07 rfl rfl) ?_;refine Y02 (Y0b rfl) ?_;refine Y02 (Y05 rfl) ?_;exact⟨Y05 rfl,trivial⟩));(focus (exact rfl));(focus (simp;done));(focus (simp;done)))
   · have c1:decide ((i:Int)<(ds.length:Int))=false:=by simpa using hlt
     have hi2:i=ds.length:=by omega
     subst hi2
     rw[Y0s]at h3
     simp only[Ze4,Y0f]at h3
     cases acc with
     |nil =>
      repeat' ((conv=>whnf);first|refine stp ?_|with_reducible apply Z01<;>intro h)
      conv=>whnf
      refine⟨Nat×List UInt8,(λp=>p.1<=ts.length/\p.2++Zdd (ts.drop p.1)=tot),(λp=>[(5,.ptr 0 0),(35,.rs ts.length 1 (ts.map stA)),(36,.int .i64 ts.length),(37,.int .i64 p.1)]),(λp=>WP [AV.rs ds.length 3 (dcC ds),AV.rs ts.length 1 (ts.map stA)] p.2),(λp=>ts.length-p.1),⟨(0,[]),⟨Y0h _,h3⟩,?_⟩,?_⟩
      ·(apply Zvo (v:=0) (c:=1);rotate_left;(focus (exact rfl));(focus (exact rfl));(focus (exact rfl));(focus (exact rfl));(focus (refine Y02 (Y07 rfl rfl) ?_;refine Y02 (Y0b rfl) ?_;refine Y02 (Y05 rfl) ?_;exact⟨Y05 rfl,trivial⟩));(focus (exact rfl)))
      rintro⟨j,bcc⟩ ⟨k1,k3⟩
      dsimp only at k1 k3
      dsimp only
      clear h3 htot hdc h1
      by_cases hjt:j<ts.length
      · have c2:decide ((j:Int)<(ts.length:Int))=true:=by simpa using hjt
        have hy:=th1 ts j hjt
        obtain⟨B,hB⟩:∃B,Z7n ts[j] 0=B:=⟨_,rfl⟩
        have q6:=@q5 ts[j] (Z0i hjt) B hB
        rw[Y0r hjt]at k3
        simp only[Zdd,thT,hB]at k3
        clear q5 hB
        generalize ts[j]=l at *
        simp only[stA]at hy q6
        have htl:=congrArg List.length k3
        simp only[Y0d,Y06,Y01]at htl
        cases bcc with
        |nil =>
         repeat' ((conv=>whnf);first|refine exI hy ?_|(refine Z8y (ZeA p1  [116,104,114,101,97,100,32] [] [116,104,114,101,97,100,32]  rfl rfl (Y0e _ _) ?_ rfl rfl rfl rfl) ?_;(exact leS))|(refine Z0G (q6 ?_ ?_ rfl rfl rfl rfl rfl) ?_;(exact neS);(exact leS))|(refine Z0G (Z1S p1  [[10]] [10]  rfl rfl ?_ ?_ rfl rfl rfl rfl rfl) ?_;(exact neS);(exact leS))|(with_reducible refine ixJ j rfl ?_ ?_;focus omega)|refine stp ?_|with_reducible apply Z01<;>intro h)
         conv=>whnf
         refine⟨(j+1,[116,104,114,101,97,100,32]++B++[10]),⟨hjt,by rw[<- k3];simp⟩,by show ts.length-(j+1)<ts.length-j;omega,?_⟩
         (apply fgP (v:=0) (c:=1);rotate_left;rotate_left;rotate_left;(focus (exact rfl));(focus (exact rfl));(focus (exact rfl));(focus (exact rfl));(focus (exact rfl));(focus (refine Y02 (Y07 rfl rfl) ?_;refine Y02 (Y0b rfl) ?_;refine Y02 (Y05 rfl) ?_;exact⟨Y05 rfl,trivial⟩));(focus (exact rfl));(focus (simp;done));(focus (simp;done)))
        |cons bc bt =>
         repeat' ((conv=>whnf);first|refine exI hy ?_|(refine Z0G (Z1S p1  [[116,104,114,101,97,100,32]] [116,104,114,101,97,100,32]  rfl rfl ?_ ?_ rfl rfl rfl rfl rfl) ?_;(exact neS);(exact leS))|(refine Z0G (q6 ?_ ?_ rfl rfl rfl rfl rfl) ?_;(exact neS);(exact leS))|(refine Z0G (Z1S p1  [[10]] [10]  rfl rfl ?_ ?_ rfl rfl rfl rfl rfl) ?_;(exact neS);(exact leS))|(with_reducible refine ixJ j rfl ?_ ?_;focus omega)|refine stp ?_|with_reducible apply Z01<;>intro h)
         conv=>whnf
         refine⟨(j+1,bc::bt++[116,104,114,101,97,100,32]++B++[10]),⟨hjt,by rw[<- k3];simp⟩,by show ts.length-(j+1)<ts.length-j;omega,?_⟩
         (apply fgP (v:=0) (c:=1);rotate_left;rotate_left;rotate_left;(focus (exact rfl));(focus (exact rfl));(focus (exact rfl));(focus (exact rfl));(focus (exact rfl));(focus (refine Y02 (Y07 rfl rfl) ?_;refine Y02 (Y0b rfl) ?_;refine Y02 (Y05 rfl) ?_;exact⟨Y05 rfl,trivial⟩));(focus (exact rfl));(focus (simp;done));(focus (simp;done)))
      · have c2:decide ((j:Int)<(ts.length:Int))=false:=by simpa using hjt
        have hj2:j=ts.length:=by omega
        subst hj2
        rw[Y0s]at k3
        simp only[Zdd,Y09]at k3
        subst k3
        cases bcc with
        |nil =>
         repeat' ((conv=>whnf);first|refine stp ?_|with_reducible apply Z01<;>intro h)
         all_goals rfl
        |cons bc bt =>
         have hlw:(bc::bt).length<=1099511627776:=by omega
         repeat' ((conv=>whnf);first|refine exI (Zg3 (s:=bc::bt) rfl rfl rfl (Y0e _ _) hlw rfl) ?_|refine stp ?_|with_reducible apply Z01<;>intro h)
         all_goals rfl
     |cons ac at_ =>
      repeat' ((conv=>whnf);first|refine stp ?_|with_reducible apply Z01<;>intro h)
      conv=>whnf
      refine⟨Nat×List UInt8,(λp=>p.1<=ts.length/\p.2++Zdd (ts.drop p.1)=tot),(λp=>[(5,.ptr 0 0),(35,.rs ts.length 1 (ts.map stA)),(36,.int .i64 ts.length),(37,.int .i64 p.1)]),(λp=>WP [AV.rs ds.length 3 (dcC ds),AV.rs ts.length 1 (ts.map stA)] p.2),(λp=>ts.length-p.1),⟨(0,ac::at_),⟨Y0h _,h3⟩,?_⟩,?_⟩
      ·(apply fgP (v:=0) (c:=1);rotate_left;rotate_left;rotate_left;(focus (exact rfl));(focus (exact rfl));(focus (exact rfl));(focus (exact rfl));(focus (exact rfl));(focus (refine Y02 (Y07 rfl rfl) ?_;refine Y02 (Y0b rfl) ?_;refine Y02 (Y05 rfl) ?_;exact⟨Y05 rfl,trivial⟩));(focus (exact rfl));(focus (simp;done));(focus (simp;done)))
      rintro⟨j,bcc⟩ ⟨k1,k3⟩
      dsimp only at k1 k3
      dsimp only
      clear h3 htot hdc h1
      by_cases hjt:j<ts.length
      · have c2:decide ((j:Int)<(ts.length:Int))=true:=by simpa using hjt
        have hy:=th1 ts j hjt
        obtain⟨B,hB⟩:∃B,Z7n ts[j] 0=B:=⟨_,rfl⟩
        have q6:=@q5 ts[j] (Z0i hjt) B hB
        rw[Y0r hjt]at k3
        simp only[Zdd,thT,hB]at k3
        clear q5 hB
        generalize ts[j]=l at *
        simp only[stA]at hy q6
        have htl:=congrArg List.length k3
        simp only[Y0d,Y06,Y01]at htl
        cases bcc with
        |nil =>
         repeat' ((conv=>whnf);first|refine exI hy ?_|(refine Z8y (ZeA p1  [116,104,114,101,97,100,32] [] [116,104,114,101,97,100,32]  rfl rfl (Y0e _ _) ?_ rfl rfl rfl rfl) ?_;(exact leS))|(refine Z0G (q6 ?_ ?_ rfl rfl rfl rfl rfl) ?_;(exact neS);(exact leS))|(refine Z0G (Z1S p1  [[10]] [10]  rfl rfl ?_ ?_ rfl rfl rfl rfl rfl) ?_;(exact neS);(exact leS))|(with_reducible refine ixJ j rfl ?_ ?_;focus omega)|refine stp ?_|with_reducible apply Z01<;>intro h)
         conv=>whnf
         refine⟨(j+1,[116,104,114,101,97,100,32]++B++[10]),⟨hjt,by rw[<- k3];simp⟩,by show ts.length-(j+1)<ts.length-j;omega,?_⟩
         (apply fgP (v:=0) (c:=1);rotate_left;rotate_left;rotate_left;(focus (exact rfl));(focus (exact rfl));(focus (exact rfl));(focus (exact rfl));(focus (exact rfl));(focus (refine Y02 (Y07 rfl rfl) ?_;refine Y02 (Y0b rfl) ?_;refine Y02 (Y05 rfl) ?_;exact⟨Y05 rfl,trivial⟩));(focus (exact rfl));(focus (simp;done));(focus (simp;done)))
        |cons bc bt =>
         repeat' ((conv=>whnf);first|refine exI hy ?_|(refine Z0G (Z1S p1  [[116,104,114,101,97,100,32]] [116,104,114,101,97,100,32]  rfl rfl ?_ ?_ rfl rfl rfl rfl rfl) ?_;(exact neS);(exact leS))|(refine Z0G (q6 ?_ ?_ rfl rfl rfl rfl rfl) ?_;(exact neS);(exact leS))|(refine Z0G (Z1S p1  [[10]] [10]  rfl rfl ?_ ?_ rfl rfl rfl rfl rfl) ?_;(exact neS);(exact leS))|(with_reducible refine ixJ j rfl ?_ ?_;focus omega)|refine stp ?_|with_reducible apply Z01<;>intro h)
         conv=>whnf
         refine⟨(j+1,bc::bt++[116,104,114,101,97,100,32]++B++[10]),⟨hjt,by rw[<- k3];simp⟩,by show ts.length-(j+1)<ts.length-j;omega,?_⟩
         (apply fgP (v:=0) (c:=1);rotate_left;rotate_left;rotate_left;(focus (exact rfl));(focus (exact rfl));(focus (exact rfl));(focus (exact rfl));(focus (exact rfl));(focus (refine Y02 (Y07 rfl rfl) ?_;refine Y02 (Y0b rfl) ?_;refine Y02 (Y05 rfl) ?_;exact⟨Y05 rfl,trivial⟩));(focus (exact rfl));(focus (simp;done));(focus (simp;done)))
      · have c2:decide ((j:Int)<(ts.length:Int))=false:=by simpa using hjt
        have hj2:j=ts.length:=by omega
        subst hj2
        rw[Y0s]at k3
        simp only[Zdd,Y09]at k3
        subst k3
        cases bcc with
        |nil =>
         repeat' ((conv=>whnf);first|refine stp ?_|with_reducible apply Z01<;>intro h)
         all_goals rfl
        |cons bc bt =>
         have hlw:(bc::bt).length<=1099511627776:=by omega
         repeat' ((conv=>whnf);first|refine exI (Zg3 (s:=bc::bt) rfl rfl rfl (Y0e _ _) hlw rfl) ?_|refine stp ?_|with_reducible apply Z01<;>intro h)
         all_goals rfl
 · rw[if_neg hc]
   obtain⟨O,hO,p2,-⟩:=fams (P:=Y00) (gl:=rgl) [{ I:=Unit,f:=32,G:=(λ_=>True),A:=(λ_=>[p.av]),R:=(λ_=>.int .i64 (Z0y p)),body:=(by kernel_rfl),inj:=(λ_ _ _ _ _=>rfl),ok:=(λ_ _=>⟨rfl,hch⟩) }] rfl
   have q2:∀H,Z03 Y00 O H 32 [p.av]=some (.int .i64 (Z0y p),H):=p2 () trivial
   clear p2 hch
   generalize Z0y p=c at *
   have e1:(c != 0)=true:=by simpa using hc
   obtain⟨ds,ts⟩:=p
   simp only[Pr.av]at *
   refine Z0d follows Z05 hO Tryz.func9 rfl ?_
   repeat' ((conv=>whnf);first|with_reducible refine exI (q2 _) ?_|refine stp ?_|with_reducible apply Z01<;>intro h)
   all_goals rfl
end
section
theorem Zsz(l:List St):thT l=[116,104,114,101,97,100,32,123,10]++(lnT l 1++[125,10]):=by
 simp only[thT,Z7n,spc];simp
end
section
theorem Zh4:∀(k:List Dc)(l:Int),(∀d∈k,rgI d.val)->0<=Z1W k l->((Ze4 k).length:Int)<=60*k.length+20*(l-Z1W k l)
 |[],l,hg,h=>by simp only[Ze4,Z1W,Y01]at *;omega
 |x::k,l,hg,h=>by
  simp only[Z1W]at h⊢
  by_cases hl:0<=l
  · rw[if_pos hl]at h⊢
    have ih:=Zh4 k _ (λd hd=>hg d (by simp[hd])) h
    have h1:=Zh2 (hg x (by simp))
    have h2:(dcT x).length<=12+x.name.length+(Zd2 x.val).length:=by
     obtain⟨n,p,v⟩:=x
     cases p<;>simp[dcT]<;>omega
    simp only[Ze4,Y0d,Y06]
    omega
  ·rw[if_neg hl]at h;omega
theorem Zge:∀(k:List (List St))(l:Int),ZmF k->1+Z11 k<=41->0<=Z0I k l->((Zdd k).length:Int)<=12*k.length+512*(l-Z0I k l)
 |[],l,hg,hd,h=>by simp only[Zdd,Z0I,Y01]at *;omega
 |x::k,l,hg,hd,h=>by
  simp only[Z0I]at h⊢
  by_cases hl:0<=l
  · rw[if_pos hl]at h⊢
    simp only[ZmF]at hg
    simp only[Z11]at hd
    have h4:=Z54 k (heftSL x l)
    have ih:=Zge k _ hg.2 (by omega) h
    have h1:=lnT_len x 1 l hg.1 (by omega) (by omega)
    simp only[Zdd,Zsz,Y0d,Y06,Y01]
    omega
  ·rw[if_neg hl]at h;omega
theorem Zqe(p:Pr)(hg:rgP p)(hd:1+Z11 p.threads<=41)(h:Z1z p 3000=true):(prT p).length<=4000000:=by
 simp only[Z1z,decide_eq_true_eq]at h
 have h1:=Z54 p.threads (Z1W p.decls ((3000:Int)-min ((3000:Int)+1) (p.decls.length:Int)-min ((3000:Int)+1) (p.threads.length:Int)))
 have h2:=Z6X p.decls ((3000:Int)-min ((3000:Int)+1) (p.decls.length:Int)-min ((3000:Int)+1) (p.threads.length:Int))
 have h3:=Zh4 p.decls _ hg.1 (show 0<=Z1W p.decls ((3000:Int)-min ((3000:Int)+1) (p.decls.length:Int)-min ((3000:Int)+1) (p.threads.length:Int)) by omega)
 have h4:=Zge p.threads _ hg.2 hd h
 simp only[prT,Y0d]
 omega
end
section
theorem opensX:ZbD Y00 28 λu=>∃e:Ex,u = .agg e.cells/\okE e/\rgE e:=by
 have h3:Z3g Y00 (match Y00.underlying 28 with|some (.struct fs)=>fs.toList|_=>[]) [QI,QI,QT,QEL] 0 (Y00.cellsOf 28):=by
  rw[Y0t]
  refine⟨rfl,Z33 Tryz.underlying3,?_⟩
  refine⟨by kernel_rfl,Z33 Tryz.underlying2,?_⟩
  refine⟨by kernel_rfl,Z4V Tryz.underlying9,?_⟩
  refine⟨by kernel_rfl,OpensB.all λN=>(Zjr N).2,?_⟩
  unfold Z3g;kernel_rfl
 rw[Y0t]at h3
 refine Z9t (Z6Q Y0t h3) ?_
 rintro u ⟨us,rfl,hu⟩
 obtain⟨e,rfl,he⟩:=q_e hu
 exact⟨e,rfl,he⟩
end
section
theorem Zp2(e:Ex):refsL [.agg e.cells] []=[]:=by have:=Z4q e;simpa[refsL,Z1m]using this
theorem Zug{p:Pr}(hg:rgP p)(h:Z1z p 3000=true)(hc:Z0y p=0):(prT p).length<=1073741824:=by
 obtain⟨c1,c2,c3,c4⟩:=Z3d hc
 have:=Zqe p hg (by omega) h
 omega
theorem ZuI{e:Ex}(hg:rgE e)(h:0<=Z1y e 3000):(wrE e).length<=1073741824:=by
 have:=ZeH e 3000 hg h
 omega
end
section
theorem ZtA:cl []:=λb h=>by cases h
end
section
variable {gl:Z0l}
def Zm1(T:List Tq)(s:Ps):List St×Ps:=ZrY T (Zj5 T) s
theorem Zlq(T:List Tq):ZuW gl T 0 (Zm1 T):=Zdq (ZbR T)
end
section
def dcW(d:Dc):List Wt:=[kwW (if d.plain then [112,108,97,105,110] else [115,104,97,114,101,100]),wdW d.name,sgW [61],nmW d.val.toNat,sgW [59]]
def ZkJ:List Dc->List Wt
 |[]=>[]
 |d::l=>dcW d++ZkJ l
def ZbM:List (List St)->List Wt
 |[]=>[]
 |l::t=>kwW [116,104,114,101,97,100]::sgW [123]::(tkSL l++(sgW [125]::ZbM t))
theorem ZoH:∀(ds:List Dc),(∀d∈ds,Z0Z d.name=true/\0<=d.val/\rgI d.val)->∀{r:List UInt8}{l:List Wt},Lx r l->Lx (Ze4 ds++r) (ZkJ ds++l)
 |[],h,r,l,hl=>hl
 |d::ds,h,r,l,hl=>by
  have ih:=ZoH ds (λa ha=>h a (Y0l _ ha)) hl
  obtain⟨h1,h2,h3⟩:=h d (Y0i ..)
  have hb:d.val.toNat<9223372036854775808:=by have:=h3.2;omega
  have h4:Lx (32::(d.name++(32::([61]++(32::(Z4r d.val.toNat++(59::10::(Ze4 ds++r)))))))) (wdW d.name::sgW [61]::nmW d.val.toNat::sgW [59]::(ZkJ ds++l)) :=
   lx_bl (by decide) (Zcg h1 (Zii _) (lx_bl (by decide) (ZjF (t:=[61]) (by decide) (Zii _) (lx_bl (by decide) (ZoG hb (Zvu _) (lx_s1 (by decide) (lx_bl (by decide) ih)))))))
  obtain⟨nm,pl,v⟩:=d
  cases pl with
  |true =>
   have e1:Ze4 (⟨nm,true,v⟩::ds)++r=[112,108,97,105,110]++(32::(nm++(32::([61]++(32::(Z4r v.toNat++(59::10::(Ze4 ds++r)))))))):=by simp[Ze4,dcT,Zd2]
   rw[e1]
   exact Z7I (by decide) (Zii _) h4
  |false =>
   have e1:Ze4 (⟨nm,false,v⟩::ds)++r=[115,104,97,114,101,100]++(32::(nm++(32::([61]++(32::(Z4r v.toNat++(59::10::(Ze4 ds++r)))))))):=by simp[Ze4,dcT,Zd2]
   rw[e1]
   exact Z7I (by decide) (Zii _) h4
theorem ZoE:∀(ts:List (List St)),(∀t∈ts,∀s∈t,XSt s)->Lx (Zdd ts) (ZbM ts)
 |[],h=>ZjG
 |t::ts,h=>by
  have ih:=ZoE ts (λa ha=>h a (Y0l _ ha))
  have e1:Zdd (t::ts)=[116,104,114,101,97,100]++(32::(123::10::(lnT t (0+1)++(spc 0++125::(10::Zdd ts))))):=by simp[Zdd,thT,Z7n]
  rw[e1]
  exact Z7I (by decide) (Zii _) (lx_bl (by decide) (Zdz (λs hs=>ZsV (h t (Y0i ..) s hs)) 0 (lx_bl (by decide) ih)))
theorem Zuo(p:Pr)(hd:∀d∈p.decls,Z0Z d.name=true/\0<=d.val/\rgI d.val)(ht:∀t∈p.threads,∀s∈t,XSt s):Lx (prT p) (ZkJ p.decls++ZbM p.threads):=by
 unfold prT
 exact ZoH p.decls hd (ZoE p.threads ht)
end
section
variable {gl:Z0l}
def ZiD(T:List Tq)(pl:Bool)(s:Ps):Dc×Ps :=
 if isF T (Z23 T s) [61]=true then
  (if (Z15 T (Z0g (Z23 T s))).kind=3 then (⟨Z4J T s,pl,(Z15 T (Z0g (Z23 T s))).num⟩,Z0g (Z0g (Z23 T s)))
   else (⟨Z4J T s,pl,0⟩,Z1t (Z0g (Z23 T s)) 5 (Z15 T (Z0g (Z23 T s))).pos))
 else (⟨Z4J T s,pl,0⟩,Z23 T s)
def Ze5(T:List Tq)(pl:Bool):Nat->Ps->List Dc×Ps
 |0,s=>([],s)
 |k+1,s=>if isF T (ZiD T pl s).2 [44]=true then ((ZiD T pl s).1::(Ze5 T pl k (Z0g (ZiD T pl s).2)).1,(Ze5 T pl k (Z0g (ZiD T pl s).2)).2) else ([(ZiD T pl s).1],(ZiD T pl s).2)
def Z4s(T:List Tq)(pl:Bool)(s:Ps):List Dc×Ps:=((Ze5 T pl (T.length+1) s).1,Z0z T (Ze5 T pl (T.length+1) s).2 [59])
theorem ZsR{T:List Tq}{s:Ps}(hs:PsOK T s)(h:(Z15 T s).kind=3):PsGo T s (Z0g s):=by
 have hk:(Z15 T s).kind≠5:=by omega
 rw[Z0X hs.lt]at hk
 have hlo:=hs.lo
 exact⟨⟨hs.last _ hs.lt hk,hs.few,hs.last,by show -((s.i+1:Nat):Int)<=s.op;omega,hs.hi⟩,Nat.le_succ _,by show s.op+(s.i:Int)<=s.op+((s.i+1:Nat):Int);omega⟩
theorem ZkN{T:List Tq}(pl:Bool){s:Ps}(hs:PsOK T s):PsGo T s (ZiD T pl s).2:=by
 have h1:=ZbF hs
 unfold ZiD
 split
 · rename_i h
   have h2:=Z0b h1.ok h
   split
   · rename_i h3
     exact h1.trans (h2.trans (ZsR h2.ok h3))
   ·exact h1.trans (h2.trans (Z72 h2.ok _ _))
 ·exact h1
theorem ZkK{T:List Tq}(pl:Bool):∀(k:Nat){s:Ps},PsOK T s->PsGo T s (Ze5 T pl k s).2
 |0,s,h=>⟨h,Y0a _,Int.le_refl _⟩
 |k+1,s,h=>by
  have h1:=ZkN pl h
  unfold Ze5
  split
  · rename_i h2
    have h3:=Z0b h1.ok h2
    exact h1.trans (h3.trans (ZkK pl k h3.ok))
  ·exact h1
theorem Zh3{T:List Tq}(pl:Bool){s:Ps}(hs:PsOK T s):PsGo T s (Z4s T pl s).2:=by
 have h1:=ZkK pl (T.length+1) hs
 exact h1.trans (Z1o h1.ok _)
theorem Z0w:∀l:List Dc,(dcC l).all Z9X=true
 |[]=>rfl
 |d::l=>by simp only[dcC,Dc.cells,List.all_append,Z0w l,Y0n];rfl
theorem Z2s:∀l:List Dc,(dcC l).length=l.length*3
 |[]=>rfl
 |d::l=>by simp only[dcC,Y0d,Z2s l,Y06];simp[Dc.cells];omega
theorem ZcD:∀a b:List Dc,dcC (a++b)=dcC a++dcC b
 |[],b=>rfl
 |e::a,b=>by simp only[dcC,Y0g,ZcD a b,Y0j]
theorem Z7V(l:List Dc)(n:List UInt8)(p:Bool)(v:Int):dcC l++[.str n,.bool p,.int .i64 v]=dcC (l++[⟨n,p,v⟩]):=by rw[ZcD];rfl
def dcA(l:List Dc):AV:=.rs l.length 3 (dcC l)
def dcN:List Dc->AV
 |[]=>.nslice
 |e::l=>dcA (e::l)
theorem Zp4{sn:Z0n}{ι : Z0j}{v:Value}:∀{l:List Dc},VR sn ι (dcN l) v->VR sn ι (dcA l) v
 |[],h=>Z9x h
 |_::_,h=>h
def dcS:List Dc->AV
 |[]=>.nslice
 |e::l=>.slice 1 0 (l.length+1) (l.length+1) 3
def ZnR:List Dc->Z00
 |[]=>[]
 |e::l=>[⟨true,1,0,.cells (dcC (e::l)) 61⟩]
def ZvR(f:Nat):Bool:=Y0c f 43 || (Y0c f 79 || Y0c f 80)
structure Bs5 where
 l:List Dc
 s:Ps
 k:Nat
 m:Bool
theorem ZnP {T : List Tq} {s0 : Ps} (hs0 : PsOK T s0) (pl : Bool) :
  MemQ Y00 gl 1 44 [.ptr 0 0,.bool pl] (psH T s0) (dcA (Z4s T pl s0).1) (psH T (Z4s T pl s0).2):=by
 obtain⟨O,hO,⟨p1,p2,p3,-⟩,-⟩:=Z13 (P:=Y00) (gl:=gl) [Z7t T,ZeI T,Z68 T] [] rfl
 have tk:∀w s X,kwB w=true->isF T s w=true->PsOK T s->Z0m [0] X=true->Z03 Y00 O (psH T s++X) 43 [.ptr 0 0,.str w]=some (.bool true,psH T (Z0g s)++X):=λw s X hw hi h hX=>by
  have this:Z03 Y00 O (psH T s++X) 43 [.ptr 0 0,.str w]=some (.bool (Z1l T s w),psH T (Z0s T s w)++X):=p1 (w,s,X) ⟨h,hX⟩
  rw[(Z1f hw).1,(Z1f hw).2,hi,if_pos rfl]at this
  exact this
 have tn:∀w s X,kwB w=true->isF T s w=false->PsOK T s->Z0m [0] X=true->Z03 Y00 O (psH T s++X) 43 [.ptr 0 0,.str w]=some (.bool false,psH T s++X):=λw s X hw hi h hX=>by
  have this:Z03 Y00 O (psH T s++X) 43 [.ptr 0 0,.str w]=some (.bool (Z1l T s w),psH T (Z0s T s w)++X):=p1 (w,s,X) ⟨h,hX⟩
  rw[(Z1f hw).1,(Z1f hw).2,hi,if_neg (by decide)]at this
  exact this
 have qw:∀s X,PsOK T s->Z0m [0] X=true->Z03 Y00 O (psH T s++X) 79 [.ptr 0 0]=some (.str (Z4J T s),psH T (Z23 T s)++X):=λs X h hX=>p2 ((),s,X) ⟨h,hX⟩
 have qn:∀w s X,PsOK T s->Z0m [0] X=true->Z03 Y00 O (psH T s++X) 80 [.ptr 0 0,.str w]=some (.tuple [],psH T (Z0z T s w)++X):=λw s X h hX=>p3 (w,s,X) ⟨h,hX⟩
 clear p1 p2 p3
 have hT:Zhl Y00 22 22=some (61,3,32):=by kernel_rfl
 unfold Z4s
 simp only
 generalize hR:Ze5 T pl (T.length+1) s0=R
 obtain⟨RL,RS⟩:=R
 have hfew:=hs0.few
 have hI:PsOK T s0/\([]:List Dc).length+(T.length+1)<=T.length+1/\(true=true->T.length-s0.i<T.length+1/\[]++(Ze5 T pl (T.length+1) s0).1=RL/\(Ze5 T pl (T.length+1) s0).2=RS)/\(true=false->[]=RL/\s0=RS):=⟨hs0,by simp,λ_=>⟨by omega,by rw[hR];rfl,by rw[hR]⟩,λh=>by cases h⟩
 clear hR
 simp only
 refine MemQ.conv (r:=dcN RL) ?_ (λ_ _ _ h=>Zp4 h)
 simp only[psH]
 refine Z0J follows Z05 (Z0a follows Z05 hO 3) Tryz.func44 rfl (Z0r (isC:=ZvR) 3) ?_
 repeat' ((conv=>whnf);first|refine stp ?_|with_reducible apply Z01<;>intro h)
 conv=>whnf
 refine⟨Bs5,(λy=>PsOK T y.s/\y.l.length+y.k<=T.length+1/\(y.m=true->T.length-y.s.i<y.k/\y.l++(Ze5 T pl y.k y.s).1=RL/\(Ze5 T pl y.k y.s).2=RS)/\(y.m=false->y.l=RL/\y.s=RS)),(λy=>[(0,.ptr 0 0),(1,.bool pl),(5,dcS y.l),(6,.bool y.m)]),
  (λy=>psH T y.s++ZnR y.l),(λy=>y.k),⟨⟨[],s0,T.length+1,true⟩,hI,?_⟩,?_⟩
 · refine Y03 [0] rfl rfl ?_ ⟨hbp,trivial⟩ rfl
   exact wks
 clear hI hs0
 rintro⟨l,s,k,m⟩ ⟨hs,hlk,h1,h2⟩
 dsimp only at hs hlk h1 h2
 (try dsimp only)
 cases m with
 |false =>
  obtain⟨e1,e2⟩:=h2 rfl
  subst e1 e2
  have g1:=λX=>qn [59] s X hs
  clear h1 h2 tk tn qw qn
  generalize Z0z T s [59]=s5 at *
  have hcl:=Z2s l
  simp only[psH]at g1⊢
  rcases l with _|⟨a,l⟩
  · simp only[dcS,ZnR,dcN]
    repeat' ((conv=>whnf);first|refine exI (g1 [] rfl) ?_|refine stp ?_|with_reducible apply Z01<;>intro h)
    conv=>whnf
    exact⟨[],[0],rfl,⟨⟨rfl,rfl,rfl,rfl,BodyGe.z (Y0k (rest:=[]) rfl rfl)⟩,trivial⟩,rfl,rfl,.inl (Y0b rfl)⟩
  · simp only[dcS,ZnR,dcN]
    repeat' ((conv=>whnf);first|refine exI (g1 [_] rfl) ?_|refine stp ?_|with_reducible apply Z01<;>intro h)
    conv=>whnf
    exact⟨[1],[0],rfl,⟨⟨rfl,rfl,rfl,rfl,BodyGe.z (Y0k (rest:=[]) rfl rfl)⟩,trivial⟩,rfl,rfl,.inr (Z1g (n:=28) rfl hcl (Z0w _))⟩
 |true =>
  obtain⟨hk,hL,hS⟩:=h1 rfl
  clear h1 h2
  obtain⟨k,rfl⟩:∃k',k=k'+1:=⟨k-1,by omega⟩
  have hgo:=ZkN pl hs
  have hlt:=hs.lt
  unfold Ze5 at hL hS
  have gw:=λX=>qw s X hs
  have hs1:=Z8E hs
  unfold ZiD at hL hS hgo
  generalize Z4J T s=nm at *
  generalize Z23 T s=s1 at *
  clear qw qn
  cases h61:isF T s1 [61] with
  |false =>
   rw[h61]at hL hS hgo
   simp only[Y0m,if_false]at hL hS hgo
   have f1:=λX=>tn [61] s1 X rfl h61 hs1
   obtain⟨i1,e1,a1,o1⟩:=s1
   have ok4:=hgo.ok
   have hon:s.i<=_:=hgo.on
   cases h44:isF T ⟨i1,e1,a1,o1⟩ [44] with
   |true =>
    rw[h44]at hL hS
    simp only[if_true]at hL hS
    have g3:=λX=>tk [44] ⟨i1,e1,a1,o1⟩ X rfl h44 ok4
    have ok5:=(Z0b ok4 h44).ok
    clear tk tn
    simp only[psH,Z0g]at *
    rcases l with _|⟨a,l⟩
    all_goals simp only[dcS,ZnR,Y09,Y06,Y01]at *
    all_goals (try have hcl:=Z2s (a::l))
    all_goals (try have hsn:=Z7V (a::l) nm pl (0))
    all_goals repeat' ((conv=>whnf);first|refine exI (gw [] rfl) ?_|refine exI (gw [_] rfl) ?_|refine exI (f1 _ rfl) ?_|refine exI (g3 _ rfl) ?_|refine exI hx ?_|(with_reducible refine ixJ _ rfl ?_ ?_;focus omega)|(with_reducible refine exW wa ?_)|(refine apS ?_)|refine stp ?_|with_reducible apply Z01<;>intro h)
    all_goals (conv=>whnf)
    all_goals (try have hl1:(l++[(⟨nm,pl,0⟩:Dc)]).length=l.length+1:=by simp)
    · refine⟨⟨[(⟨nm,pl,0⟩:Dc)],⟨i1+1,e1,a1,o1⟩,k,true⟩,⟨ok5,by simp at hlk⊢;omega,λ_=>⟨by simp only at hon⊢;omega,by simpa using hL,hS⟩,(by intro h;cases h)⟩,Y04 _,?_⟩
      (refine Y03 [0,3] rfl rfl ?_ ⟨hbp,⟨rfl,rfl,rfl,rfl,Z0c rfl (Z0w [⟨nm,pl,0⟩])⟩,trivial⟩ rfl;(focus (dsimp only[dcS,Y01];(repeat (first|exact trivial|refine stw ?_));done)))
    · refine⟨⟨a::(l++[(⟨nm,pl,0⟩:Dc)]),⟨i1+1,e1,a1,o1⟩,k,true⟩,⟨ok5,by simp at hlk⊢;omega,λ_=>⟨by simp only at hon⊢;omega,by rw[<- hL];simp,hS⟩,(by intro h;cases h)⟩,Y04 _,?_⟩
      (refine Y03 [0,4] rfl rfl ?_ ⟨hbp,⟨rfl,rfl,rfl,rfl,Z0c hsn (Z0w _)⟩,trivial⟩ rfl;(focus (dsimp only[dcS,Y01];(repeat (first|exact trivial|refine stw ?_));done)))
   |false =>
    rw[h44]at hL hS
    simp only[Y0m,if_false]at hL hS
    have g3:=λX=>tn [44] ⟨i1,e1,a1,o1⟩ X rfl h44 ok4
    clear tk tn
    simp only[psH,Z0g]at *
    rcases l with _|⟨a,l⟩
    all_goals simp only[dcS,ZnR,Y09,Y06,Y01]at *
    all_goals (try have hcl:=Z2s (a::l))
    all_goals (try have hsn:=Z7V (a::l) nm pl (0))
    all_goals repeat' ((conv=>whnf);first|refine exI (gw [] rfl) ?_|refine exI (gw [_] rfl) ?_|refine exI (f1 _ rfl) ?_|refine exI (g3 _ rfl) ?_|refine exI hx ?_|(with_reducible refine ixJ _ rfl ?_ ?_;focus omega)|(with_reducible refine exW wa ?_)|(refine apS ?_)|refine stp ?_|with_reducible apply Z01<;>intro h)
    all_goals (conv=>whnf)
    all_goals (try have hl1:(l++[(⟨nm,pl,0⟩:Dc)]).length=l.length+1:=by simp)
    · refine⟨⟨[(⟨nm,pl,0⟩:Dc)],⟨i1,e1,a1,o1⟩,k,false⟩,⟨ok4,by simp at hlk⊢;omega,(by intro h;cases h),λ_=>⟨by simpa using hL,hS⟩⟩,Y04 _,?_⟩
      (refine Y03 [0,3] rfl rfl ?_ ⟨hbp,⟨rfl,rfl,rfl,rfl,Z0c rfl (Z0w [⟨nm,pl,0⟩])⟩,trivial⟩ rfl;(focus (dsimp only[dcS,Y01];(repeat (first|exact trivial|refine stw ?_));done)))
    · refine⟨⟨a::(l++[(⟨nm,pl,0⟩:Dc)]),⟨i1,e1,a1,o1⟩,k,false⟩,⟨ok4,by simp at hlk⊢;omega,(by intro h;cases h),λ_=>⟨by rw[<- hL];simp,hS⟩⟩,Y04 _,?_⟩
      (refine Y03 [0,4] rfl rfl ?_ ⟨hbp,⟨rfl,rfl,rfl,rfl,Z0c hsn (Z0w _)⟩,trivial⟩ rfl;(focus (dsimp only[dcS,Y01];(repeat (first|exact trivial|refine stw ?_));done)))
  |true =>
   rw[h61]at hL hS hgo
   simp only[if_true]at hL hS hgo
   have f1:=λX=>tk [61] s1 X rfl h61 hs1
   have he1:s1.err=0:=Classical.byContradiction λh=>by rw[Z9M h]at h61;cases h61
   have ok2:=(Z0b hs1 h61).ok
   have hx:=tq4 T _ ok2.lt
   rw[<- Z0X ok2.lt]at hx
   have hlt2:=ok2.lt
   have hfew2:=ok2.few
   generalize Z15 T (Z0g s1)=t at *
   obtain⟨i1,e1,a1,o1⟩:=s1
   simp only at he1
   subst he1
   simp only[Z0g]at *
   obtain⟨tk_,tx,tn_,tp⟩:=t
   simp only[Tq.cells]at hx hL hS hgo
   have wa:IntKind.i64.wrap (((i1+1:Nat):Int)+1)=((i1+1+1:Nat):Int):=Z4B (by omega)
   by_cases h3:tk_=3
   · subst h3
     simp only[if_true]at hL hS hgo
     have ok4:=hgo.ok
     have hon:s.i<=_:=hgo.on
     cases h44:isF T ⟨i1+1+1,0,a1,o1⟩ [44] with
     |true =>
      rw[h44]at hL hS
      simp only[if_true]at hL hS
      have g3:=λX=>tk [44] ⟨i1+1+1,0,a1,o1⟩ X rfl h44 ok4
      have ok5:=(Z0b ok4 h44).ok
      clear tk tn
      simp only[psH,Z0g]at *
      rcases l with _|⟨a,l⟩
      all_goals simp only[dcS,ZnR,Y09,Y06,Y01]at *
      all_goals (try have hcl:=Z2s (a::l))
      all_goals (try have hsn:=Z7V (a::l) nm pl (tn_))
      all_goals repeat' ((conv=>whnf);first|refine exI (gw [] rfl) ?_|refine exI (gw [_] rfl) ?_|refine exI (f1 _ rfl) ?_|refine exI (g3 _ rfl) ?_|refine exI hx ?_|(with_reducible refine ixJ _ rfl ?_ ?_;focus omega)|(with_reducible refine exW wa ?_)|(refine apS ?_)|refine stp ?_|with_reducible apply Z01<;>intro h)
      all_goals (conv=>whnf)
      all_goals (try have hl1:(l++[(⟨nm,pl,tn_⟩:Dc)]).length=l.length+1:=by simp)
      · refine⟨⟨[(⟨nm,pl,tn_⟩:Dc)],⟨i1+1+1+1,0,a1,o1⟩,k,true⟩,⟨ok5,by simp at hlk⊢;omega,λ_=>⟨by simp only at hon⊢;omega,by simpa using hL,hS⟩,(by intro h;cases h)⟩,Y04 _,?_⟩
        (refine Y03 [0,5] rfl rfl ?_ ⟨hbp,⟨rfl,rfl,rfl,rfl,Z0c rfl (Z0w [⟨nm,pl,tn_⟩])⟩,trivial⟩ rfl;(focus (dsimp only[dcS,Y01];(repeat (first|exact trivial|refine stw ?_));done)))
      · refine⟨⟨a::(l++[(⟨nm,pl,tn_⟩:Dc)]),⟨i1+1+1+1,0,a1,o1⟩,k,true⟩,⟨ok5,by simp at hlk⊢;omega,λ_=>⟨by simp only at hon⊢;omega,by rw[<- hL];simp,hS⟩,(by intro h;cases h)⟩,Y04 _,?_⟩
        (refine Y03 [0,6] rfl rfl ?_ ⟨hbp,⟨rfl,rfl,rfl,rfl,Z0c hsn (Z0w _)⟩,trivial⟩ rfl;(focus (dsimp only[dcS,Y01];(repeat (first|exact trivial|refine stw ?_));done)))
     |false =>
      rw[h44]at hL hS
      simp only[Y0m,if_false]at hL hS
      have g3:=λX=>tn [44] ⟨i1+1+1,0,a1,o1⟩ X rfl h44 ok4
      clear tk tn
      simp only[psH,Z0g]at *
      rcases l with _|⟨a,l⟩
      all_goals simp only[dcS,ZnR,Y09,Y06,Y01]at *
      all_goals (try have hcl:=Z2s (a::l))
      all_goals (try have hsn:=Z7V (a::l) nm pl (tn_))
      all_goals repeat' ((conv=>whnf);first|refine exI (gw [] rfl) ?_|refine exI (gw [_] rfl) ?_|refine exI (f1 _ rfl) ?_|refine exI (g3 _ rfl) ?_|refine exI hx ?_|(with_reducible refine ixJ _ rfl ?_ ?_;focus omega)|(with_reducible refine exW wa ?_)|(refine apS ?_)|refine stp ?_|with_reducible apply Z01<;>intro h)
      all_goals (conv=>whnf)
      all_goals (try have hl1:(l++[(⟨nm,pl,tn_⟩:Dc)]).length=l.length+1:=by simp)
      · refine⟨⟨[(⟨nm,pl,tn_⟩:Dc)],⟨i1+1+1,0,a1,o1⟩,k,false⟩,⟨ok4,by simp at hlk⊢;omega,(by intro h;cases h),λ_=>⟨by simpa using hL,hS⟩⟩,Y04 _,?_⟩
        (refine Y03 [0,5] rfl rfl ?_ ⟨hbp,⟨rfl,rfl,rfl,rfl,Z0c rfl (Z0w [⟨nm,pl,tn_⟩])⟩,trivial⟩ rfl;(focus (dsimp only[dcS,Y01];(repeat (first|exact trivial|refine stw ?_));done)))
      · refine⟨⟨a::(l++[(⟨nm,pl,tn_⟩:Dc)]),⟨i1+1+1,0,a1,o1⟩,k,false⟩,⟨ok4,by simp at hlk⊢;omega,(by intro h;cases h),λ_=>⟨by rw[<- hL];simp,hS⟩⟩,Y04 _,?_⟩
        (refine Y03 [0,6] rfl rfl ?_ ⟨hbp,⟨rfl,rfl,rfl,rfl,Z0c hsn (Z0w _)⟩,trivial⟩ rfl;(focus (dsimp only[dcS,Y01];(repeat (first|exact trivial|refine stw ?_));done)))
   · have e3:(tk_==3)=false:=by simpa using h3
     simp only[h3,if_false,Z1t,if_true]at hL hS hgo
     have ok4:=hgo.ok
     have hon:s.i<=_:=hgo.on
     cases h44:isF T ⟨i1+1,5,tp,o1⟩ [44] with
     |true =>
      rw[h44]at hL hS
      simp only[if_true]at hL hS
      have g3:=λX=>tk [44] ⟨i1+1,5,tp,o1⟩ X rfl h44 ok4
      have ok5:=(Z0b ok4 h44).ok
      clear tk tn
      simp only[psH,Z0g]at *
      rcases l with _|⟨a,l⟩
      all_goals simp only[dcS,ZnR,Y09,Y06,Y01]at *
      all_goals (try have hcl:=Z2s (a::l))
      all_goals (try have hsn:=Z7V (a::l) nm pl (0))
      all_goals repeat' ((conv=>whnf);first|refine exI (gw [] rfl) ?_|refine exI (gw [_] rfl) ?_|refine exI (f1 _ rfl) ?_|refine exI (g3 _ rfl) ?_|refine exI hx ?_|(with_reducible refine ixJ _ rfl ?_ ?_;focus omega)|(with_reducible refine exW wa ?_)|(refine apS ?_)|refine stp ?_|with_reducible apply Z01<;>intro h)
      all_goals (conv=>whnf)
      all_goals (try have hl1:(l++[(⟨nm,pl,0⟩:Dc)]).length=l.length+1:=by simp)
      · refine⟨⟨[(⟨nm,pl,0⟩:Dc)],⟨i1+1+1,5,tp,o1⟩,k,true⟩,⟨ok5,by simp at hlk⊢;omega,λ_=>⟨by simp only at hon⊢;omega,by simpa using hL,hS⟩,(by intro h;cases h)⟩,Y04 _,?_⟩
        (refine Y03 [0,5] rfl rfl ?_ ⟨hbp,⟨rfl,rfl,rfl,rfl,Z0c rfl (Z0w [⟨nm,pl,0⟩])⟩,trivial⟩ rfl;(focus (dsimp only[dcS,Y01];(repeat (first|exact trivial|refine stw ?_));done)))
      · refine⟨⟨a::(l++[(⟨nm,pl,0⟩:Dc)]),⟨i1+1+1,5,tp,o1⟩,k,true⟩,⟨ok5,by simp at hlk⊢;omega,λ_=>⟨by simp only at hon⊢;omega,by rw[<- hL];simp,hS⟩,(by intro h;cases h)⟩,Y04 _,?_⟩
        (refine Y03 [0,6] rfl rfl ?_ ⟨hbp,⟨rfl,rfl,rfl,rfl,Z0c hsn (Z0w _)⟩,trivial⟩ rfl;(focus (dsimp only[dcS,Y01];(repeat (first|exact trivial|refine stw ?_));done)))
     |false =>
      rw[h44]at hL hS
      simp only[Y0m,if_false]at hL hS
      have g3:=λX=>tn [44] ⟨i1+1,5,tp,o1⟩ X rfl h44 ok4
      clear tk tn
      simp only[psH,Z0g]at *
      rcases l with _|⟨a,l⟩
      all_goals simp only[dcS,ZnR,Y09,Y06,Y01]at *
      all_goals (try have hcl:=Z2s (a::l))
      all_goals (try have hsn:=Z7V (a::l) nm pl (0))
      all_goals repeat' ((conv=>whnf);first|refine exI (gw [] rfl) ?_|refine exI (gw [_] rfl) ?_|refine exI (f1 _ rfl) ?_|refine exI (g3 _ rfl) ?_|refine exI hx ?_|(with_reducible refine ixJ _ rfl ?_ ?_;focus omega)|(with_reducible refine exW wa ?_)|(refine apS ?_)|refine stp ?_|with_reducible apply Z01<;>intro h)
      all_goals (conv=>whnf)
      all_goals (try have hl1:(l++[(⟨nm,pl,0⟩:Dc)]).length=l.length+1:=by simp)
      · refine⟨⟨[(⟨nm,pl,0⟩:Dc)],⟨i1+1,5,tp,o1⟩,k,false⟩,⟨ok4,by simp at hlk⊢;omega,(by intro h;cases h),λ_=>⟨by simpa using hL,hS⟩⟩,Y04 _,?_⟩
        (refine Y03 [0,5] rfl rfl ?_ ⟨hbp,⟨rfl,rfl,rfl,rfl,Z0c rfl (Z0w [⟨nm,pl,0⟩])⟩,trivial⟩ rfl;(focus (dsimp only[dcS,Y01];(repeat (first|exact trivial|refine stw ?_));done)))
      · refine⟨⟨a::(l++[(⟨nm,pl,0⟩:Dc)]),⟨i1+1,5,tp,o1⟩,k,false⟩,⟨ok4,by simp at hlk⊢;omega,(by intro h;cases h),λ_=>⟨by rw[<- hL];simp,hS⟩⟩,Y04 _,?_⟩
        (refine Y03 [0,6] rfl rfl ?_ ⟨hbp,⟨rfl,rfl,rfl,rfl,Z0c hsn (Z0w _)⟩,trivial⟩ rfl;(focus (dsimp only[dcS,Y01];(repeat (first|exact trivial|refine stw ?_));done)))
end
section
variable {gl:Z0l}
theorem Zrf{T:List Tq}{s:Ps}(e a:Int):MemQ Y00 gl 1 46 [.ptr 0 0,.int .i64 e,.int .i64 a] (psH T s) (.tuple []) (psH T (Z1t s e a)):=by
 unfold Z1t
 obtain⟨i,err,at_,op⟩:=s
 simp only
 by_cases he:err=0
 · subst he
   simp only[psH,if_true]
   refine Z1J isQ 3 follows Z05 Z0h Tryz.func46 rfl ?_
   repeat' ((conv=>whnf);first|refine stp ?_|with_reducible apply Z01<;>intro h)
   all_goals (try (conv=>whnf))
   all_goals exact⟨[0],rfl,⟨hbp,trivial⟩,rfl,Y0b rfl⟩
 · have e1:(err==0)=false:=by simpa using he
   simp only[psH,he,if_false]
   refine Z1J isQ 3 follows Z05 Z0h Tryz.func46 rfl ?_
   repeat' ((conv=>whnf);first|refine stp ?_|with_reducible apply Z01<;>intro h)
   all_goals (try (conv=>whnf))
   all_goals exact⟨[0],rfl,⟨hbp,trivial⟩,rfl,Y0b rfl⟩
def Zrg(T:List Tq):FamM Y00 gl:=Z3j T 46 (by kernel_rfl) (I:=Int×Int) (λ_ s=>True) (λi=>[.ptr 0 0,.int .i64 i.1,.int .i64 i.2]) (λ_ s=>.tuple []) (λi s=>Z1t s i.1 i.2) (λ_=>rfl) (λi j h=>by
 obtain⟨a,b⟩:=i
 obtain⟨c,d⟩:=j
 simp only[List.cons.injEq,AV.int.injEq,true_and,and_true]at h
 rw[h.1,h.2]) (λi s h=>Zrf i.1 i.2)
def Ztt(T:List Tq):FamM Y00 gl:=Z3j T 47 (by kernel_rfl) (I:=Int) (λe s=>e≠3/\PsOK T s/\s.err=0/\(Z15 T s).kind=5) (λe=>[.ptr 0 0,.int .i64 e]) (λ_ s=>.agg [.int .i64 0,.int .i64 s.at_]) (λ_ s=>s) (λ_=>rfl) (λi j h=>by simpa using h) (λe s h=>Zkv h.2.1 h.2.2.1 h.2.2.2 e h.1)
def Zck:List UInt8:=[115,104,97,114,101,100]
def ZgF:List UInt8:=[112,108,97,105,110]
def Z7L:List UInt8:=[116,104,114,101,97,100]
def Z6M(T:List Tq):Nat->List Dc->List (List St)->Ps->(List Dc×List (List St))×Ps
 |0,ds,ts,s=>((ds,ts),s)
 | k + 1, ds, ts, s => if s.err = 0 /\ (Z15 T s).kind ≠ 5 then
   (if isF T s Zck=true then Z6M T k (ds++(Z4s T false (Z0g s)).1) ts (Z4s T false (Z0g s)).2
    else if isF T s ZgF=true then Z6M T k (ds++(Z4s T true (Z0g s)).1) ts (Z4s T true (Z0g s)).2
    else if isF T s Z7L=true then Z6M T k ds (ts++[(Zm1 T (Z0g s)).1]) (Zm1 T (Z0g s)).2
    else Z6M T k ds ts (Z1t s 5 (Z15 T s).pos))
  else ((ds,ts),s)
theorem Zdr{T:List Tq}{s:Ps}(h:¬(s.err=0/\(Z15 T s).kind≠5)):∀k ds ts,Z6M T k ds ts s=((ds,ts),s)
 |0,_,_=>rfl
 |k+1,_,_=>by unfold Z6M;rw[if_neg h]
theorem Zh5(T:List Tq)(pl:Bool):∀(k:Nat)(s:Ps),(Ze5 T pl k s).1.length<=k
 |0,s=>Y0a _
 |k+1,s=>by
  unfold Ze5;split
  · have:=Zh5 T pl k (Z0g (ZiD T pl s).2)
    simp;omega
  ·simp
theorem Ze3(T:List Tq)(pl:Bool)(s:Ps):∃d l,(Z4s T pl s).1=d::l/\l.length<=T.length:=by
 have h:=Zh5 T pl (T.length+1) s
 have h2:∃d l,(Ze5 T pl (T.length+1) s).1=d::l:=by
  unfold Ze5;split
  ·exact⟨_,_,rfl⟩
  ·exact⟨_,_,rfl⟩
 obtain⟨d,l,e⟩:=h2
 rw[e]at h
 exact⟨d,l,e,by simpa using h⟩
theorem ZkL:∀l:List Dc,(dcC l).all one=true
 |[]=>rfl
 |d::l=>by simp only[dcC,Dc.cells,List.all_append,ZkL l,Y0n];rfl
end
section
theorem Zrs:zstp 0 [Zie]:=by
 intro j _ _ p _ x hx
 cases hx
 rfl
theorem Zrl{e:Ex}(hx:XRt e)(hd:Z0P e<=100){l:List Tk}(n:Nat)(hl:l.map Tk.w=tkE e):Z2q (Z8H l n) s0=(e,mv s0 (tkE e).length 0)/\(Z15 (Z8H l n) (mv s0 (tkE e).length 0)).kind=5:=by
 have hU:(upT (Z8H l n)).drop s0.i=tkE e++[Zie]:=by rw[ZiR,hl];rfl
 have h1:=ZgT hx (s:=s0) rfl (by show (0:Int)+_<=201;omega) hU Zrs
 rw[Zpa]at h1
 exact⟨h1,ZcB (s:=mv s0 (tkE e).length 0) (Z14 hU)⟩
theorem ZuK{T:List Tq}{pl:Bool}{d:Dc}(hp:d.plain=pl)(hv:0<=d.val){s:Ps}{r:List Wt}(he:s.err=0)(hU:(upT T).drop s.i=wdW d.name::sgW [61]::nmW d.val.toNat::sgW [59]::r):Z4s T pl s=([d],mv s 4 0):=by
 obtain⟨nm,p,v⟩:=d
 simp only at hp hv hU
 subst hp
 obtain⟨w1,w2⟩:=ZbE he hU
 have hU1:=Z0v hU
 have h1:isF T (mv s 1 0) [61]=true:=by rw[Z0N (s:=mv s 1 0) he hU1,Z74];rfl
 have hU2:=Z0v hU1
 have hn:(Z15 T (mv (mv s 1 0) 1 0)).w=nmW v.toNat:=Z4X hU2
 have hk:(Z15 T (mv (mv s 1 0) 1 0)).kind=3:=congrArg Wt.kind hn
 have hm:(Z15 T (mv (mv s 1 0) 1 0)).num=v:=(congrArg Wt.num hn).trans (by show ((v.toNat:Nat):Int)=v;omega)
 have hU3:=Z0v hU2
 have e1:ZiD T p s=(⟨nm,p,v⟩,mv (mv (mv s 1 0) 1 0) 1 0):=by
  unfold ZiD
  rw[w1,w2,h1,if_pos rfl,Z1L,hk,if_pos rfl,hm,Z1L]
 have h2:isF T (mv (mv (mv s 1 0) 1 0) 1 0) [44]=false:=by rw[Z0N (s:=mv (mv (mv s 1 0) 1 0) 1 0) he hU3,Z74];rfl
 have h3:=nk (T:=T) (s:=mv (mv (mv s 1 0) 1 0) 1 0) (w:=[59]) (by decide) he hU3
 unfold Z4s Ze5
 rw[e1]
 simp only[h2,Y0m,if_false]
 rw[h3]
 simp only[Z1p]
 exact congrArg _ (Z36 (by omega) (by omega))
theorem Zoj{T:List Tq}:∀(ts:List (List St)),(∀t∈ts,∀x∈t,XSt x)->(∀t∈ts,deepSL t<=90)->∀(k:Nat)(ds:List Dc)(t0:List (List St)){s:Ps},ts.length<k->s.err=0->s.op=0->(upT T).drop s.i=ZbM ts++[Zie]->Z6M T k ds t0 s=((ds,t0++ts),mv s (ZbM ts).length 0)/\(Z15 T (mv s (ZbM ts).length 0)).kind=5
 |[],hx,hd,k,ds,t0,s,hk,he,ho,hU=>by
  have e0:mv s (ZbM []).length 0=s:=by simp only[ZbM];unfold mv;simp
  have hK:(Z15 T s).kind=5:=ZcB hU
  rw[e0,Y09]
  exact⟨Zdr (λh=>h.2 hK) k ds t0,hK⟩
 |t::ts,hx,hd,k,ds,t0,s,hk,he,ho,hU=>by
  obtain⟨k,rfl⟩:∃k',k=k'+1:=⟨k-1,by omega⟩
  simp only[ZbM,Y0g,Y0j]at hU
  have hi:∀v,isF T s v=(Z7L==v):=λv=>by rw[Z0N he hU];exact Z5P Z7L v
  have hK:(Z15 T s).kind=2:=congrArg Wt.kind (Z4X hU)
  have hU1:=Z0v hU
  have hdt:=hd t (Y0i ..)
  have h1:=Zhf (T:=T) (d:=T.length) (s:=mv s 1 0) (λx h=>⟨hx t (Y0i ..) x h,Zou (hx t (Y0i ..) x h)⟩) (Z76 (Z0v hU1)) he (by show s.op+0<200;omega) (by show s.op+0+_<=_;omega) hU1
  have hU2:(upT T).drop (s.i+(1+((tkSL t).length+2)))=ZbM ts++[Zie]:=by
   have:=Z0v (Z14 (Z0v hU1))
   rw[show s.i+1+1+(tkSL t).length+1=s.i+(1+((tkSL t).length+2)) by omega]at this
   exact this
  have ih:=Zoj ts (λa ha=>hx a (Y0l _ ha)) (λa ha=>hd a (Y0l _ ha)) k ds (t0++[t]) (s:=mv s (1+((tkSL t).length+2)) (0+0)) (by simp at hk;omega) he (by show s.op+(0+0)=0;omega) hU2
  have h1:Zm1 T (mv s 1 0)=_:=h1
  unfold Z6M
  rw[if_pos ⟨he,by rw[hK];decide⟩,hi,hi,hi,if_neg (by decide),if_neg (by decide),if_pos (by decide),Z1L,h1]
  simp only
  rw[Z1p,ih.1]
  have e3:mv (mv s (1+((tkSL t).length+2)) (0+0)) (ZbM ts).length 0=mv s (ZbM (t::ts)).length 0:=by
   rw[Z1p]
   exact Z36 (by simp only[ZbM,Y06,Y0d];omega) (by omega)
  rw[e3,Y0j]
  exact⟨rfl,by rw[<- e3];exact ih.2⟩
theorem Zp3{T:List Tq}{ts:List (List St)}(hx:∀t∈ts,∀x∈t,XSt x)(hd:∀t∈ts,deepSL t<=90):∀(ds:List Dc),(∀d∈ds,0<=d.val)->∀(k:Nat)(d0:List Dc){s:Ps},ds.length+ts.length<k->s.err=0->s.op=0->(upT T).drop s.i=ZkJ ds++(ZbM ts++[Zie])->∃n,Z6M T k d0 [] s=((d0++ds,ts),mv s n 0)/\(Z15 T (mv s n 0)).kind=5
 |[],hv,k,d0,s,hk,he,ho,hU=>by
  have h:=Zoj ts hx hd k d0 [] (s:=s) (by simpa using hk) he ho hU
  rw[Y0f]at h
  rw[Y09]
  exact⟨_,h⟩
 |d::ds,hv,k,d0,s,hk,he,ho,hU=>by
  obtain⟨k,rfl⟩:∃k',k=k'+1:=⟨k-1,by omega⟩
  simp only[ZkJ,dcW,Y0g,Y0f]at hU
  obtain⟨w,hw⟩:∃w,w=(if d.plain=true then ([112,108,97,105,110]:List UInt8) else [115,104,97,114,101,100]):=⟨_,rfl⟩
  rw[<- hw]at hU
  have hi:∀v,isF T s v=(w==v):=λv=>by rw[Z0N he hU];exact Z5P w v
  have hK:(Z15 T s).kind=2:=congrArg Wt.kind (Z4X hU)
  have hU1:=Z0v hU
  have h1:=ZuK (T:=T) (pl:=d.plain) rfl (hv d (Y0i ..)) (s:=mv s 1 0) he hU1
  have hU2:(upT T).drop (s.i+(1+4))=ZkJ ds++(ZbM ts++[Zie]):=Z0v (Z0v (Z0v (Z0v hU1)))
  obtain⟨n,ih1,ih2⟩:=Zp3 hx hd ds (λa ha=>hv a (Y0l _ ha)) k (d0++[d]) (s:=mv s (1+4) (0+0)) (by simp at hk;omega) he (by show s.op+(0+0)=0;omega) hU2
  refine⟨1+4+n,?_⟩
  have e3:mv (mv s (1+4) (0+0)) n 0=mv s (1+4+n) 0:=by rw[Z1p];exact Z36 rfl (by omega)
  rw[e3]at ih1 ih2
  refine⟨?_,ih2⟩
  unfold Z6M
  rw[if_pos ⟨he,by rw[hK];decide⟩]
  cases hp:d.plain with
  |true =>
   rw[hp]at hw h1
   have hw:w=[112,108,97,105,110]:=hw
   rw[hi,hi,hw,if_neg (by decide),if_pos (by decide),Z1L,h1]
   simp only
   rw[Z1p,ih1,Y0j]
   rfl
  |false =>
   rw[hp]at hw h1
   have hw:w=[115,104,97,114,101,100]:=hw
   rw[hi,hw,if_pos (by decide),Z1L,h1]
   simp only
   rw[Z1p,ih1,Y0j]
   rfl
theorem Zqd{p:Pr}(hx:∀t∈p.threads,∀x∈t,XSt x)(hd:∀t∈p.threads,deepSL t<=90)(hv:∀d∈p.decls,0<=d.val){l:List Tk}(n:Nat)(hl:l.map Tk.w=ZkJ p.decls++ZbM p.threads):∃m,Z6M (Z8H l n) ((Z8H l n).length+1) [] [] s0=((p.decls,p.threads),mv s0 m 0)/\(Z15 (Z8H l n) (mv s0 m 0)).kind=5:=by
 have hU:(upT (Z8H l n)).drop s0.i=ZkJ p.decls++(ZbM p.threads++[Zie]):=by rw[ZiR,hl,Y0j];rfl
 have a1:∀ds:List Dc,ds.length<=(ZkJ ds).length:=λds=>by
  induction ds with
  |nil=>exact Y0a _
  |cons d ds ih=>simp only[ZkJ,dcW,Y0d,Y06,Y01];omega
 have a2:∀ts:List (List St),ts.length<=(ZbM ts).length:=λts=>by
  induction ts with
  |nil=>exact Y0a _
  |cons t ts ih=>simp only[ZbM,Y0d,Y06];omega
 have b1:=a1 p.decls
 have b2:=a2 p.threads
 have b3:=congrArg List.length hl
 have b4:=ZeL l n
 simp only[List.length_map,Y0d]at b3
 exact Zp3 hx hd p.decls hv _ [] (by omega) rfl rfl hU
end
section
variable {gl:Z0l}
def thS:List (List St)->Nat->AV
 |[],_=>.nslice
 |e::l,n=>.slice n 0 (l.length+1) (l.length+1) 1
def Zsf:List (List St)->Nat->Z00
 |[],_=>[]
 |e::l,n=>[⟨true,n,0,.cells ((e::l).map stA) 47⟩]
def Zaw:List Dc->AV
 |[]=>.nslice
 |e::l=>.slice 4 0 (l.length+1) (l.length+1) 3
def Zso:List Dc->Z00
 |[]=>[]
 |e::l=>[⟨true,4,0,.cells (dcC (e::l)) 61⟩]
def Z9c:List Dc->Nat
 |[]=>4
 |_::_=>5
def thN:List (List St)->AV
 |[]=>.nslice
 |e::l=>.rs (l.length+1) 1 ((e::l).map stA)
theorem ZsA{sn:Z0n}{ι : Z0j}{v:Value}:∀{l:List (List St)},VR sn ι (thN l) v->VR sn ι (.rs l.length 1 (l.map stA)) v
 |[],h=>Z9x h
 |_::_,h=>h
theorem ZsM{sn:Z0n}{ι : Z0j}{v:Value}{D:List Dc}{S:List (List St)}(h:VR sn ι (.agg [dcN D,thN S]) v):VR sn ι (Pr.mk D S).av v:=by
 obtain⟨d,rfl,d1,l1,f1,a1,d2,l2,rfl,a2,h1⟩:=h.agg
 exact Z2Y ⟨_,_,f1,Zp4 a1,_,_,rfl,ZsA a2,h1⟩
theorem Z1Q:∀l:List (List St),(l.map stA).all Z9X=true
 |[]=>rfl
 |e::l=>by simp only[List.map_cons,List.all_cons,Z1Q l,Y0n];rfl
theorem ZgO{H:Z00}{a b:AV}(h:frz H 30 a=some b):Z22 (frz H 30) [a]=some [b]:=by simp only[Z22,h]
theorem Z8j{H:Z00}{n:Nat}{a b a' b':AV}(h1:frz H n a=some a')(h2:frz H n b=some b'):frz H (n+1) (.agg [a,b])=some (.agg [a',b']):=by
 show (match Z22 (frz H n) [a,b] with|some l=>some (AV.agg l)|none=>none)=_
 simp only[Z22,h1,h2]
theorem Zda{sn:Z0n}{v:Value}{D:List Dc}{S:List (List St)}{x:AV}(h:VR sn noI (.tuple [.agg [dcN D,thN S],x]) v):VR sn noI (.tuple [(Pr.mk D S).av,x]) v:=by
 simp only[VR,LR]at h⊢
 obtain⟨ds,e,d,l,e1,h1,h2⟩:=h
 exact⟨ds,e,d,l,e1,ZsM h1,h2⟩
def ZvQ(f:Nat):Bool:=Y0c f 77 || (Y0c f 10 || (Y0c f 43 || (Y0c f 44 || (Y0c f 45 || (Y0c f 46 || Y0c f 47)))))
structure Bs6 where
 ds:List Dc
 ts:List (List St)
 s:Ps
 k:Nat
theorem ZmO {T : List Tq} (h0 : PsOK T ⟨0, 0, 0, 0⟩) {txt : List UInt8} {D : List Dc} {S : List (List St)} {E : Ps} (hA : ValOK Y00 gl 77 [.str txt] (.tuple [.rs T.length 4 (tqC T), .agg [.int .i64 0, .int .i64 0]]))
  (hP:Z6M T (T.length+1) [] [] ⟨0,0,0,0⟩=((D,S),E)) (hE:E.err=0) (hat:E.at_=0) (hK:(Z15 T E).kind=5) {c:Int} (hC:ValOK Y00 gl 10 [(Pr.mk D S).av] (.int .i64 c)) (h3:c≠3) :
  ValOK Y00 gl 11 [.str txt] (.tuple [(Pr.mk D S).av,.agg [.int .i64 0,.int .i64 0]]):=by
 obtain⟨O1,hO1,⟨p1,p2,p3,p4,p5,-⟩,⟨p6,-⟩⟩:=Z13 (P:=Y00) (gl:=gl) [Z7t T,Z3j T 44 (by kernel_rfl) (I:=Bool) (λ_ s=>PsOK T s) (λb=>[.ptr 0 0,.bool b]) (λb s=>dcA (Z4s T b s).1) (λb s=>(Z4s T b s).2) (λ_=>rfl) (λi j h=>by simpa using h) (λb s h=>ZnP h b),
  Z3j T 45 (by kernel_rfl) (I:=Unit) (λ_ s=>PsOK T s) (λ_=>[.ptr 0 0]) (λ_ s=>stA (Zm1 T s).1) (λ_ s=>(Zm1 T s).2) (λ_=>rfl) (λ_ _ _=>rfl) (λ_ s h=>(Zlq T s h (Y0h _)).2),Zrg T,Ztt T] [ZoC (by kernel_rfl) rfl hA] rfl
 have hCN:ValOK Y00 gl 10 [.agg [dcN D,thN S]] (.int .i64 c):=hC.weak λsn vs h=>by
  simp only[LR]at h⊢
  obtain⟨d,ds,e,h1,r⟩:=h
  exact⟨d,ds,e,ZsM h1,r⟩
 obtain⟨O,hO,q9,ho⟩:=ZdI hO1 (f0:=10) rfl hCN (by kernel_rfl)
 have tk:∀w s X,kwB w=true->isF T s w=true->PsOK T s->Z0m [0] X=true->Z03 Y00 O (psH T s++X) 43 [.ptr 0 0,.str w]=some (.bool true,psH T (Z0g s)++X):=λw s X hw hi h hX=>by
  have this:Z03 Y00 O1 (psH T s++X) 43 [.ptr 0 0,.str w]=some (.bool (Z1l T s w),psH T (Z0s T s w)++X):=p1 (w,s,X) ⟨h,hX⟩
  rw[(Z1f hw).1,(Z1f hw).2,hi,if_pos rfl]at this
  rw[ho _ (by decide)];exact this
 have tn:∀w s X,kwB w=true->isF T s w=false->PsOK T s->Z0m [0] X=true->Z03 Y00 O (psH T s++X) 43 [.ptr 0 0,.str w]=some (.bool false,psH T s++X):=λw s X hw hi h hX=>by
  have this:Z03 Y00 O1 (psH T s++X) 43 [.ptr 0 0,.str w]=some (.bool (Z1l T s w),psH T (Z0s T s w)++X):=p1 (w,s,X) ⟨h,hX⟩
  rw[(Z1f hw).1,(Z1f hw).2,hi,if_neg (by decide)]at this
  rw[ho _ (by decide)];exact this
 have qd:∀b s X,PsOK T s->Z0m [0] X=true->Z03 Y00 O (psH T s++X) 44 [.ptr 0 0,.bool b]=some (dcA (Z4s T b s).1,psH T (Z4s T b s).2++X):=λb s X h hX=>by rw[ho _ (by decide)];exact p2 (b,s,X) ⟨h,hX⟩
 have qk:∀s X,PsOK T s->Z0m [0] X=true->Z03 Y00 O (psH T s++X) 45 [.ptr 0 0]=some (stA (Zm1 T s).1,psH T (Zm1 T s).2++X):=λs X h hX=>by rw[ho _ (by decide)];exact p3 ((),s,X) ⟨h,hX⟩
 have qf:∀e a s X,Z0m [0] X=true->Z03 Y00 O (psH T s++X) 46 [.ptr 0 0,.int .i64 e,.int .i64 a]=some (.tuple [],psH T (Z1t s e a)++X):=λe a s X hX=>by rw[ho _ (by decide)];exact p4 ((e,a),s,X) ⟨trivial,hX⟩
 have qe:∀X,Z0m [0] X=true->PsOK T E->Z03 Y00 O (psH T E++X) 47 [.ptr 0 0,.int .i64 c]=some (.agg [.int .i64 0,.int .i64 0],psH T E++X):=λX hX hok=>by
  have this:Z03 Y00 O1 (psH T E++X) 47 [.ptr 0 0,.int .i64 c]=some (.agg [.int .i64 0,.int .i64 E.at_],psH T E++X):=p5 (c,E,X) ⟨⟨h3,hok,hE,hK⟩,hX⟩
  rw[hat]at this
  rw[ho _ (by decide)];exact this
 have qa:∀H,Z03 Y00 O H 77 [.str txt]=some (.tuple [.rs T.length 4 (tqC T),.agg [.int .i64 0,.int .i64 0]],H):=λH=>by rw[ho _ (by decide)];exact p6 () trivial H
 clear p1 p2 p3 p4 p5 p6 ho hO1 hCN hC hA
 have hΦ : ∀r':AV,(∀sn v,VR sn noI r' v->VR sn noI (.tuple [(Pr.mk D S).av,.agg [.int .i64 0,.int .i64 0]]) v)->∀sn v,VR sn noI r' v->VR sn noI (.tuple [(Pr.mk D S).av,.agg [.int .i64 0,.int .i64 0]]) v:=λr' h=>h
 have hT1:Zhl Y00 22 22=some (61,3,32):=by kernel_rfl
 have hT2:Zhl Y00 23 23=some (47,1,24):=by kernel_rfl
 refine fn_valX follows Z05 (Z0a follows Z05 hO 3) hΦ Tryz.func11 rfl (Z0r (isC:=ZvQ) 3) ?_
 have hfew0:=h0.few
 repeat' ((conv=>whnf);first|refine exI (qa _) ?_|refine stp ?_|with_reducible apply Z01<;>intro h)
 conv=>whnf
 refine⟨Bs6,(λy=>PsOK T y.s/\(y.s.err=0->T.length-y.s.i<y.k)/\y.ds.length+1000001*y.k<=1000002000001/\y.ts.length+y.k<=1000001/\Z6M T y.k y.ds y.ts y.s=((D,S),E)),(λy=>[(0,.str txt),(2,.ptr 1 0),(3,.ptr 2 0),(4,.ptr 0 0),(5,.ptr 3 0)]),
  (λy=>psH T y.s++[⟨true,1,0,.cells [.nslice,.nslice] 25⟩,⟨true,2,0,.cells [.int .i64 0,.int .i64 0] 37⟩,⟨true,3,0,.cells [Zaw y.ds,thS y.ts (Z9c y.ds)] 25⟩]++(Zso y.ds++Zsf y.ts (Z9c y.ds))),(λy=>y.k),⟨⟨[],[],⟨0,0,0,0⟩,T.length+1⟩,⟨h0,λ_=>by show T.length-0<T.length+1;omega,by show 0+1000001*(T.length+1)<=1000002000001;omega,by show 0+(T.length+1)<=1000001;omega,hP⟩,?_⟩,?_⟩
 · refine Y03 [3,0,1,4] rfl rfl ?_ ⟨hbp,hbp,hbp,hbp,trivial⟩ rfl
   exact wks
 rintro⟨ds,ts,s,k⟩ ⟨hs,hk,hd,ht,hF⟩
 dsimp only at hs hk hd ht hF
 (try dsimp only)
 have hx:=tq4 T s.i hs.lt
 rw[<- Z0X hs.lt]at hx
 have hlt:=hs.lt
 by_cases hc:s.err=0/\(Z15 T s).kind≠5
 · have hkk:=hk hc.1
   obtain⟨k,rfl⟩:∃k',k=k'+1:=⟨k-1,by omega⟩
   unfold Z6M at hF
   rw[if_pos hc]at hF
   obtain⟨c1,c2⟩:=hc
   have e5:((Z15 T s).kind != 5)=true:=by simpa using c2
   clear qe q9 qa
   cases h1:isF T s Zck with
   |true =>
    rw[h1,if_pos rfl]at hF
    have f0:=λX=>tk Zck s X rfl h1 hs
    have go1:=Z0b hs h1
    have go2:=Zh3 false go1.ok
    have fd:=λX=>qd false _ X go1.ok
    obtain⟨d,dl,hd1,hd2⟩:=Ze3 T false (Z0g s)
    have hfew:=hs.few
    have hon:s.i+1<=(Z4s T false (Z0g s)).2.i:=go2.on
    have ok2:=go2.ok
    clear tk tn qd qk qf go1 go2
    generalize Z0g s=u at *
    generalize Z4s T false u=R at *
    obtain⟨RL,⟨i2,er2,at2,op2⟩⟩:=R
    simp only at hd1
    subst hd1
    have hlt2:er2=0->T.length-i2<k:=λ_=>by simp only at hon;omega
    generalize Z15 T s=t at *
    obtain⟨tk_,tx,tn_,tp⟩:=t
    obtain⟨i,err,at_,op⟩:=s
    obtain⟨ui,ue,ua,uo⟩:=u
    simp only at c1
    subst c1
    simp only[psH,Tq.cells,dcA,Y06]at *
    rcases ds with _|⟨a,ds⟩<;>rcases ts with _|⟨b,ts⟩
    all_goals simp only[Zaw,Zso,thS,Zsf,Z9c,Y09,Y0f,Y0g,Y06,Y01]at *
    all_goals (try have hcl:=Z2s (a::ds))
    all_goals (try have hcl2:((b::ts).map stA).length=(ts.length+1)*1:=by simp)
    all_goals have ho1:=ZkL (d::dl)
    all_goals (try have hsn:dcC (a::ds)++dcC (d::dl)=dcC (a::(ds++d::dl)):=(ZcD (a::ds) (d::dl)).symm)
    all_goals (try have hl1:(ds++d::dl).length=ds.length+(dl.length+1):=by simp)
    all_goals repeat' ((conv=>whnf);first|refine exI (f0 _ rfl) ?_|refine exI (fd _ rfl) ?_|refine exI hx ?_|(with_reducible refine ixJ _ rfl ?_ ?_;focus omega)|(refine apS ?_)|refine stp ?_|with_reducible apply Z01<;>intro h)
    all_goals (conv=>whnf)
    · refine⟨⟨(d::dl),[],⟨i2,er2,at2,op2⟩,k⟩,⟨ok2,λhe=>by have:=hlt2 he;simp only at this⊢;omega,by simp at hd⊢;omega,by simp at ht⊢;omega,by simpa using hF⟩,Y04 _,?_⟩
      refine Y03 [0,1,2,3,5] rfl rfl ?_ ⟨hbp,hbp,hbp,⟨rfl,rfl,rfl,rfl,Y08 ?_⟩,⟨rfl,rfl,rfl,rfl,Z0c rfl (Z0w _)⟩,trivial⟩ rfl
      ·exact wks
      · dsimp only[Zaw,thS,Z9c,Y01]
        exact wks
    · refine⟨⟨(d::dl),(b::ts),⟨i2,er2,at2,op2⟩,k⟩,⟨ok2,λhe=>by have:=hlt2 he;simp only at this⊢;omega,by simp at hd⊢;omega,by simp at ht⊢;omega,by simpa using hF⟩,Y04 _,?_⟩
      refine Y03 [0,1,2,3,6,4] rfl rfl ?_ ⟨hbp,hbp,hbp,⟨rfl,rfl,rfl,rfl,Y08 ?_⟩,⟨rfl,rfl,rfl,rfl,Z0c rfl (Z0w _)⟩,⟨rfl,rfl,rfl,rfl,Z0c rfl (Z1Q _)⟩,trivial⟩ rfl
      ·exact wks
      · dsimp only[Zaw,thS,Z9c,Y01]
        exact wks
    · refine⟨⟨(a::(ds++d::dl)),[],⟨i2,er2,at2,op2⟩,k⟩,⟨ok2,λhe=>by have:=hlt2 he;simp only at this⊢;omega,by simp at hd⊢;omega,by simp at ht⊢;omega,by simpa using hF⟩,Y04 _,?_⟩
      refine Y03 [0,1,2,3,6] rfl rfl ?_ ⟨hbp,hbp,hbp,⟨rfl,rfl,rfl,rfl,Y08 ?_⟩,⟨rfl,rfl,rfl,rfl,Z0c hsn (Z0w _)⟩,trivial⟩ rfl
      ·exact wks
      · dsimp only[Zaw,thS,Z9c,Y01]
        exact wks
    · refine⟨⟨(a::(ds++d::dl)),(b::ts),⟨i2,er2,at2,op2⟩,k⟩,⟨ok2,λhe=>by have:=hlt2 he;simp only at this⊢;omega,by simp at hd⊢;omega,by simp at ht⊢;omega,by simpa using hF⟩,Y04 _,?_⟩
      refine Y03 [0,1,2,3,7,5] rfl rfl ?_ ⟨hbp,hbp,hbp,⟨rfl,rfl,rfl,rfl,Y08 ?_⟩,⟨rfl,rfl,rfl,rfl,Z0c hsn (Z0w _)⟩,⟨rfl,rfl,rfl,rfl,Z0c rfl (Z1Q _)⟩,trivial⟩ rfl
      ·exact wks
      · dsimp only[Zaw,thS,Z9c,Y01]
        exact wks
   |false =>
    rw[h1,if_neg (by decide)]at hF
    have f0:=λX=>tn Zck s X rfl h1 hs
    cases h2:isF T s ZgF with
    |true =>
     rw[h2,if_pos rfl]at hF
     have f1:=λX=>tk ZgF s X rfl h2 hs
     have go1:=Z0b hs h2
     have go2:=Zh3 true go1.ok
     have fd:=λX=>qd true _ X go1.ok
     obtain⟨d,dl,hd1,hd2⟩:=Ze3 T true (Z0g s)
     have hfew:=hs.few
     have hon:s.i+1<=(Z4s T true (Z0g s)).2.i:=go2.on
     have ok2:=go2.ok
     clear tk tn qd qk qf go1 go2
     generalize Z0g s=u at *
     generalize Z4s T true u=R at *
     obtain⟨RL,⟨i2,er2,at2,op2⟩⟩:=R
     simp only at hd1
     subst hd1
     have hlt2:er2=0->T.length-i2<k:=λ_=>by simp only at hon;omega
     generalize Z15 T s=t at *
     obtain⟨tk_,tx,tn_,tp⟩:=t
     obtain⟨i,err,at_,op⟩:=s
     obtain⟨ui,ue,ua,uo⟩:=u
     simp only at c1
     subst c1
     simp only[psH,Tq.cells,dcA,Y06]at *
     rcases ds with _|⟨a,ds⟩<;>rcases ts with _|⟨b,ts⟩
     all_goals simp only[Zaw,Zso,thS,Zsf,Z9c,Y09,Y0f,Y0g,Y06,Y01]at *
     all_goals (try have hcl:=Z2s (a::ds))
     all_goals (try have hcl2:((b::ts).map stA).length=(ts.length+1)*1:=by simp)
     all_goals have ho1:=ZkL (d::dl)
     all_goals (try have hsn:dcC (a::ds)++dcC (d::dl)=dcC (a::(ds++d::dl)):=(ZcD (a::ds) (d::dl)).symm)
     all_goals (try have hl1:(ds++d::dl).length=ds.length+(dl.length+1):=by simp)
     all_goals repeat' ((conv=>whnf);first|refine exI (f0 _ rfl) ?_|refine exI (f1 _ rfl) ?_|refine exI (fd _ rfl) ?_|refine exI hx ?_|(with_reducible refine ixJ _ rfl ?_ ?_;focus omega)|(refine apS ?_)|refine stp ?_|with_reducible apply Z01<;>intro h)
     all_goals (conv=>whnf)
     · refine⟨⟨(d::dl),[],⟨i2,er2,at2,op2⟩,k⟩,⟨ok2,λhe=>by have:=hlt2 he;simp only at this⊢;omega,by simp at hd⊢;omega,by simp at ht⊢;omega,by simpa using hF⟩,Y04 _,?_⟩
       refine Y03 [0,1,2,3,5] rfl rfl ?_ ⟨hbp,hbp,hbp,⟨rfl,rfl,rfl,rfl,Y08 ?_⟩,⟨rfl,rfl,rfl,rfl,Z0c rfl (Z0w _)⟩,trivial⟩ rfl
       ·exact wks
       · dsimp only[Zaw,thS,Z9c,Y01]
         exact wks
     · refine⟨⟨(d::dl),(b::ts),⟨i2,er2,at2,op2⟩,k⟩,⟨ok2,λhe=>by have:=hlt2 he;simp only at this⊢;omega,by simp at hd⊢;omega,by simp at ht⊢;omega,by simpa using hF⟩,Y04 _,?_⟩
       refine Y03 [0,1,2,3,6,4] rfl rfl ?_ ⟨hbp,hbp,hbp,⟨rfl,rfl,rfl,rfl,Y08 ?_⟩,⟨rfl,rfl,rfl,rfl,Z0c rfl (Z0w _)⟩,⟨rfl,rfl,rfl,rfl,Z0c rfl (Z1Q _)⟩,trivial⟩ rfl
       ·exact wks
       · dsimp only[Zaw,thS,Z9c,Y01]
         exact wks
     · refine⟨⟨(a::(ds++d::dl)),[],⟨i2,er2,at2,op2⟩,k⟩,⟨ok2,λhe=>by have:=hlt2 he;simp only at this⊢;omega,by simp at hd⊢;omega,by simp at ht⊢;omega,by simpa using hF⟩,Y04 _,?_⟩
       refine Y03 [0,1,2,3,6] rfl rfl ?_ ⟨hbp,hbp,hbp,⟨rfl,rfl,rfl,rfl,Y08 ?_⟩,⟨rfl,rfl,rfl,rfl,Z0c hsn (Z0w _)⟩,trivial⟩ rfl
       ·exact wks
       · dsimp only[Zaw,thS,Z9c,Y01]
         exact wks
     · refine⟨⟨(a::(ds++d::dl)),(b::ts),⟨i2,er2,at2,op2⟩,k⟩,⟨ok2,λhe=>by have:=hlt2 he;simp only at this⊢;omega,by simp at hd⊢;omega,by simp at ht⊢;omega,by simpa using hF⟩,Y04 _,?_⟩
       refine Y03 [0,1,2,3,7,5] rfl rfl ?_ ⟨hbp,hbp,hbp,⟨rfl,rfl,rfl,rfl,Y08 ?_⟩,⟨rfl,rfl,rfl,rfl,Z0c hsn (Z0w _)⟩,⟨rfl,rfl,rfl,rfl,Z0c rfl (Z1Q _)⟩,trivial⟩ rfl
       ·exact wks
       · dsimp only[Zaw,thS,Z9c,Y01]
         exact wks
    |false =>
     rw[h2,if_neg (by decide)]at hF
     have f1:=λX=>tn ZgF s X rfl h2 hs
     cases h3:isF T s Z7L with
     |true =>
      rw[h3,if_pos rfl]at hF
      have f2:=λX=>tk Z7L s X rfl h3 hs
      have go1:=Z0b hs h3
      have go2:=(Zlq (gl:=gl) T (Z0g s) go1.ok (Y0h _)).1
      have fd:=λX=>qk _ X go1.ok
      have hfew:=hs.few
      have hon:s.i+1<=(Zm1 T (Z0g s)).2.i:=go2.on
      have ok2:=go2.ok
      clear tk tn qd qk qf go1 go2
      generalize Z0g s=u at *
      generalize Zm1 T u=R at *
      obtain⟨bl,⟨i2,er2,at2,op2⟩⟩:=R
      have hlt2:er2=0->T.length-i2<k:=λ_=>by simp only at hon;omega
      generalize Z15 T s=t at *
      obtain⟨tk_,tx,tn_,tp⟩:=t
      obtain⟨i,err,at_,op⟩:=s
      obtain⟨ui,ue,ua,uo⟩:=u
      simp only at c1
      subst c1
      simp only[psH,Tq.cells,stA]at *
      rcases ds with _|⟨a,ds⟩<;>rcases ts with _|⟨b,ts⟩
      all_goals simp only[Zaw,Zso,thS,Zsf,Z9c,Y09,Y0f,Y0g,Y06,Y01]at *
      all_goals (try have hcl:=Z2s (a::ds))
      all_goals (try have hcl2:((b::ts).map stA).length=(ts.length+1)*1:=by simp)
      all_goals (try have hl1:(ts++[bl]).length=ts.length+1:=by simp)
      all_goals (try have hsn:(b::ts).map stA++[.rs bl.length 7 (stC bl)]=(b::(ts++[bl])).map stA:=by simp[stA])
      all_goals repeat' ((conv=>whnf);first|refine exI (f0 _ rfl) ?_|refine exI (f1 _ rfl) ?_|refine exI (f2 _ rfl) ?_|refine exI (fd _ rfl) ?_|refine exI hx ?_|(with_reducible refine ixJ _ rfl ?_ ?_;focus omega)|(refine apS ?_)|refine stp ?_|with_reducible apply Z01<;>intro h)
      all_goals (conv=>whnf)
      · refine⟨⟨[],[bl],⟨i2,er2,at2,op2⟩,k⟩,⟨ok2,λhe=>by have:=hlt2 he;simp only at this⊢;omega,by simp at hd⊢;omega,by simp at ht⊢;omega,by simpa using hF⟩,Y04 _,?_⟩
        refine Y03 [0,1,2,3,6] rfl rfl ?_ ⟨hbp,hbp,hbp,⟨rfl,rfl,rfl,rfl,Y08 ?_⟩,⟨rfl,rfl,rfl,rfl,Z0c rfl (Z1Q [bl])⟩,trivial⟩ rfl
        ·exact wks
        · dsimp only[Zaw,thS,Z9c,Y01]
          exact wks
      · refine⟨⟨[],(b::(ts++[bl])),⟨i2,er2,at2,op2⟩,k⟩,⟨ok2,λhe=>by have:=hlt2 he;simp only at this⊢;omega,by simp at hd⊢;omega,by simp at ht⊢;omega,by simpa using hF⟩,Y04 _,?_⟩
        refine Y03 [0,1,2,3,7] rfl rfl ?_ ⟨hbp,hbp,hbp,⟨rfl,rfl,rfl,rfl,Y08 ?_⟩,⟨rfl,rfl,rfl,rfl,Z0c hsn (Z1Q _)⟩,trivial⟩ rfl
        ·exact wks
        · dsimp only[Zaw,thS,Z9c,Y01]
          exact wks
      · refine⟨⟨(a::ds),[bl],⟨i2,er2,at2,op2⟩,k⟩,⟨ok2,λhe=>by have:=hlt2 he;simp only at this⊢;omega,by simp at hd⊢;omega,by simp at ht⊢;omega,by simpa using hF⟩,Y04 _,?_⟩
        refine Y03 [0,1,2,3,4,7] rfl rfl ?_ ⟨hbp,hbp,hbp,⟨rfl,rfl,rfl,rfl,Y08 ?_⟩,⟨rfl,rfl,rfl,rfl,Z0c rfl (Z0w _)⟩,⟨rfl,rfl,rfl,rfl,Z0c rfl (Z1Q [bl])⟩,trivial⟩ rfl
        ·exact wks
        · dsimp only[Zaw,thS,Z9c,Y01]
          exact wks
      · refine⟨⟨(a::ds),(b::(ts++[bl])),⟨i2,er2,at2,op2⟩,k⟩,⟨ok2,λhe=>by have:=hlt2 he;simp only at this⊢;omega,by simp at hd⊢;omega,by simp at ht⊢;omega,by simpa using hF⟩,Y04 _,?_⟩
        refine Y03 [0,1,2,3,4,8] rfl rfl ?_ ⟨hbp,hbp,hbp,⟨rfl,rfl,rfl,rfl,Y08 ?_⟩,⟨rfl,rfl,rfl,rfl,Z0c rfl (Z0w _)⟩,⟨rfl,rfl,rfl,rfl,Z0c hsn (Z1Q _)⟩,trivial⟩ rfl
        ·exact wks
        · dsimp only[Zaw,thS,Z9c,Y01]
          exact wks
     |false =>
      rw[h3,if_neg (by decide)]at hF
      have f2:=λX=>tn Z7L s X rfl h3 hs
      have fd:=λX=>qf 5 (Z15 T s).pos s X
      have ok2:=Z8W hs 5 (Z15 T s).pos
      have hlt2:(Z1t s 5 (Z15 T s).pos).err=0->T.length-(Z1t s 5 (Z15 T s).pos).i<k:=λh=>absurd h (ZdS _ _ (by decide))
      clear tk tn qd qk qf
      generalize Z15 T s=t at *
      obtain⟨tk_,tx,tn_,tp⟩:=t
      obtain⟨i,err,at_,op⟩:=s
      simp only at c1
      subst c1
      simp only[Z1t,if_true]at fd ok2 hlt2 hF
      simp only[psH,Tq.cells]at *
      rcases ds with _|⟨a,ds⟩<;>rcases ts with _|⟨b,ts⟩
      all_goals simp only[Zaw,Zso,thS,Zsf,Z9c,Y09,Y0f,Y0g,Y06,Y01]at *
      all_goals (try have hcl:=Z2s (a::ds))
      all_goals (try have hcl2:((b::ts).map stA).length=(ts.length+1)*1:=by simp)
      all_goals repeat' ((conv=>whnf);first|refine exI (f0 _ rfl) ?_|refine exI (f1 _ rfl) ?_|refine exI (f2 _ rfl) ?_|refine exI (fd _ rfl) ?_|refine exI hx ?_|(with_reducible refine ixJ _ rfl ?_ ?_;focus omega)|(refine apS ?_)|refine stp ?_|with_reducible apply Z01<;>intro h)
      all_goals (conv=>whnf)
      · refine⟨⟨[],[],⟨i,5,tp,op⟩,k⟩,⟨ok2,λhe=>by have:=hlt2 he;simp only at this⊢;omega,by simp at hd⊢;omega,by simp at ht⊢;omega,by simpa using hF⟩,Y04 _,?_⟩
        refine Y03 [0,1,2,3] rfl rfl ?_ ⟨hbp,hbp,hbp,⟨rfl,rfl,rfl,rfl,Y08 ?_⟩,trivial⟩ rfl
        ·exact wks
        · dsimp only[Zaw,thS,Z9c,Y01]
          exact wks
      · refine⟨⟨[],(b::ts),⟨i,5,tp,op⟩,k⟩,⟨ok2,λhe=>by have:=hlt2 he;simp only at this⊢;omega,by simp at hd⊢;omega,by simp at ht⊢;omega,by simpa using hF⟩,Y04 _,?_⟩
        refine Y03 [0,1,2,3,4] rfl rfl ?_ ⟨hbp,hbp,hbp,⟨rfl,rfl,rfl,rfl,Y08 ?_⟩,⟨rfl,rfl,rfl,rfl,Z0c rfl (Z1Q _)⟩,trivial⟩ rfl
        ·exact wks
        · dsimp only[Zaw,thS,Z9c,Y01]
          exact wks
      · refine⟨⟨(a::ds),[],⟨i,5,tp,op⟩,k⟩,⟨ok2,λhe=>by have:=hlt2 he;simp only at this⊢;omega,by simp at hd⊢;omega,by simp at ht⊢;omega,by simpa using hF⟩,Y04 _,?_⟩
        refine Y03 [0,1,2,3,4] rfl rfl ?_ ⟨hbp,hbp,hbp,⟨rfl,rfl,rfl,rfl,Y08 ?_⟩,⟨rfl,rfl,rfl,rfl,Z0c rfl (Z0w _)⟩,trivial⟩ rfl
        ·exact wks
        · dsimp only[Zaw,thS,Z9c,Y01]
          exact wks
      · refine⟨⟨(a::ds),(b::ts),⟨i,5,tp,op⟩,k⟩,⟨ok2,λhe=>by have:=hlt2 he;simp only at this⊢;omega,by simp at hd⊢;omega,by simp at ht⊢;omega,by simpa using hF⟩,Y04 _,?_⟩
        refine Y03 [0,1,2,3,4,5] rfl rfl ?_ ⟨hbp,hbp,hbp,⟨rfl,rfl,rfl,rfl,Y08 ?_⟩,⟨rfl,rfl,rfl,rfl,Z0c rfl (Z0w _)⟩,⟨rfl,rfl,rfl,rfl,Z0c rfl (Z1Q _)⟩,trivial⟩ rfl
        ·exact wks
        · dsimp only[Zaw,thS,Z9c,Y01]
          exact wks
 · have hE2:=Zdr hc k ds ts
   rw[hE2]at hF
   simp only[Prod.mk.injEq]at hF
   obtain⟨⟨rfl,rfl⟩,rfl⟩:=hF
   have e5:((Z15 T s).kind != 5)=false:=by rw[hK];rfl
   have f0:=λX hX=>qe X hX hs
   clear tk tn qd qk qf qe hE2 hc qa h0 hP hk
   generalize Z15 T s=t at *
   obtain⟨tk_,tx,tn_,tp⟩:=t
   obtain⟨i,err,at_,op⟩:=s
   simp only at hE hat hK
   subst hE hat hK
   simp only[psH,Tq.cells]at *
   rcases ds with _|⟨a,ds⟩<;>rcases ts with _|⟨b,ts⟩
   all_goals simp only[Zaw,Zso,dcN,thN,thS,Zsf,Z9c,Y09,Y0f,Y0g,Y06,Y01]at *
   all_goals (try have hcl:=Z2s (a::ds))
   all_goals (try have hcl2:((b::ts).map stA).length=(ts.length+1)*1:=by simp)
   · repeat' ((conv=>whnf);first|refine exI (f0 _ rfl) ?_|refine exI (q9 _ _ (ZgO (Z8j rfl rfl))) ?_|refine exI hx ?_|(with_reducible refine ixJ _ rfl ?_ ?_;focus omega)|refine stp ?_|with_reducible apply Z01<;>intro h)
     conv=>whnf
     first|exact λsn v h=>Zda h|exact⟨_,Z9R (Z8j rfl rfl) (Z6Y rfl),λsn v h=>Zda h⟩
   · repeat' ((conv=>whnf);first|refine exI (f0 _ rfl) ?_|(refine exI (q9 _ _ (ZgO (Z8j rfl (Z1g (n:=27) rfl hcl2 (Z1Q (b::ts)))))) ?_)|refine exI hx ?_|(with_reducible refine ixJ _ rfl ?_ ?_;focus omega)|refine stp ?_|with_reducible apply Z01<;>intro h)
     conv=>whnf
     first|exact λsn v h=>Zda h|exact⟨_,Z9R (Z8j rfl (Z1g (n:=26) rfl hcl2 (Z1Q (b::ts)))) (Z6Y rfl),λsn v h=>Zda h⟩
   · repeat' ((conv=>whnf);first|refine exI (f0 _ rfl) ?_|(refine exI (q9 _ _ (ZgO (Z8j (Z1g (n:=27) rfl hcl (Z0w (a::ds))) rfl))) ?_)|refine exI hx ?_|(with_reducible refine ixJ _ rfl ?_ ?_;focus omega)|refine stp ?_|with_reducible apply Z01<;>intro h)
     conv=>whnf
     first|exact λsn v h=>Zda h|exact⟨_,Z9R (Z8j (Z1g (n:=26) rfl hcl (Z0w (a::ds))) rfl) (Z6Y rfl),λsn v h=>Zda h⟩
   · repeat' ((conv=>whnf);first|refine exI (f0 _ rfl) ?_|(refine exI (q9 _ _ (ZgO (Z8j (Z1g (n:=27) rfl hcl (Z0w (a::ds))) (Z1g (n:=27) rfl hcl2 (Z1Q (b::ts)))))) ?_)|refine exI hx ?_|(with_reducible refine ixJ _ rfl ?_ ?_;focus omega)|refine stp ?_|with_reducible apply Z01<;>intro h)
     conv=>whnf
     first|exact λsn v h=>Zda h|exact⟨_,Z9R (Z8j (Z1g (n:=26) rfl hcl (Z0w (a::ds))) (Z1g (n:=26) rfl hcl2 (Z1Q (b::ts)))) (Z6Y rfl),λsn v h=>Zda h⟩
end
section
variable {gl:Z0l}
def hEx(T:List Tq)(s:Ps):Z00:=[⟨true,0,0,.cells [.int .i64 0,.int .i64 0,.str [],.nslice] 28⟩,⟨true,1,0,.cells [.int .i64 0,.int .i64 0] 37⟩,⟨true,2,0,.cells [.int .i64 0,.int .i64 0] 37⟩,
 ⟨true,3,0,.cells [.rs T.length 4 (tqC T),.int .i64 (s.i:Nat),.int .i64 s.err,.int .i64 s.at_,.int .i64 s.op] 80⟩]
theorem ZqX{T:List Tq}{f:Nat}{s s':Ps}{k:Int}{r:AV}(h:Z1b Y00 gl f [.ptr 0 0,.int .i64 k] (psH T s) r (psH T s'))(hr:Z1a 1 (Z1m r [])=true)(hren:ren (sgS [3] 4) r=r):Z1b Y00 gl f [.ptr 3 0,.int .i64 k] (hEx T s) r (hEx T s'):=by
 have h2:=Z9B (m:=[3]) (Hc:=hEx T s) (cargs:=[.ptr 3 0,.int .i64 k]) h (Wk.tuple ⟨Y07 rfl rfl,Y05 rfl,trivial⟩) ⟨hbp,trivial⟩ rfl rfl rfl (Z3b rfl) ZmH hr
 refine cast ?_ h2
 have e:ren (sgS [3] (hEx T s).length) r=r:=hren
 rw[e]
 rfl
def hEy(T:List Tq)(s:Ps)(o n:Int)(t:List UInt8)(k:Nat)(c:List AV):Z00:=hEx T s++[⟨true,4,0,.cells [.int .i64 o,.int .i64 n,.str t,.rs k 4 c] 28⟩]
theorem ZqW{T:List Tq}{f:Nat}{s s':Ps}{o n:Int}{t:List UInt8}{kk:Nat}{cc:List AV}{k:Int}{r:AV}(h:Z1b Y00 gl f [.ptr 0 0,.int .i64 k] (psH T s) r (psH T s'))(hr:Z1a 1 (Z1m r [])=true)(hren:ren (sgS [3] 5) r=r):Z1b Y00 gl f [.ptr 3 0,.int .i64 k] (hEy T s o n t kk cc) r (hEy T s' o n t kk cc):=by
 have h2:=Z9B (m:=[3]) (Hc:=hEy T s o n t kk cc) (cargs:=[.ptr 3 0,.int .i64 k]) h (Wk.tuple ⟨Y07 rfl rfl,Y05 rfl,trivial⟩) ⟨hbp,trivial⟩ rfl rfl rfl (Z3b rfl) ZmH hr
 refine cast ?_ h2
 have e:ren (sgS [3] (hEy T s o n t kk cc).length) r=r:=hren
 rw[e]
 rfl
def Zux(f:Nat):Bool:=Y0c f 77 || (Y0c f 14 || (Y0c f 53 || Y0c f 47))
theorem ZmM {T : List Tq} (h0 : PsOK T ⟨0, 0, 0, 0⟩) {txt : List UInt8} {e : Ex} {E : Ps} (hA : ValOK Y00 gl 77 [.str txt] (.tuple [.rs T.length 4 (tqC T), .agg [.int .i64 0, .int .i64 0]]))
  (hP:Z2q T ⟨0,0,0,0⟩=(e,E)) (hE:E.err=0) (hat:E.at_=0) (hK:(Z15 T E).kind=5) {c:Int} (hC:ValOK Y00 gl 14 [.agg e.cells] (.int .i64 c)) (h3:c≠3) :
  ValOK Y00 gl 15 [.str txt] (.tuple [.agg e.cells,.agg [.int .i64 0,.int .i64 0]]):=by
 have hx:=Zfr (gl:=gl) h0
 rw[hP]at hx
 have hE1:=Zkv (gl:=gl) hx.1.ok hE hK c h3
 rw[hat]at hE1
 obtain⟨o,n,t,ks⟩:=e
 simp only[Ex.cells]at hx hC⊢
 have m1:=ZqX (k:=0) (Z4T hx.2) rfl rfl
 have m2:=ZqW (k:=c) (o:=o) (n:=n) (t:=t) (kk:=ks.length) (cc:=exC ks) (Z4T hE1) rfl rfl
 obtain⟨O,hO,⟨p1,p2,-⟩,⟨p3,p4,-⟩⟩:=Z13 (P:=Y00) (gl:=gl) [{ I:=Unit,f:=53,G:=λ_=>True,A:=λ_=>[.ptr 3 0,.int .i64 0],H:=λ_=>hEx T ⟨0,0,0,0⟩,R:=λ_=>.agg [.int .i64 o,.int .i64 n,.str t,.rs ks.length 4 (exC ks)],O:=λ_=>hEx T E,body:=(by kernel_rfl),inj:=(λ_ _ _ _ _ _=>⟨rfl,rfl⟩),ok:=(λ_ _=>m1) },
  { I:=Unit,f:=47,G:=λ_=>True,A:=λ_=>[.ptr 3 0,.int .i64 c],H:=λ_=>hEy T E o n t ks.length (exC ks),R:=λ_=>.agg [.int .i64 0,.int .i64 0],O:=λ_=>hEy T E o n t ks.length (exC ks),body:=(by kernel_rfl),inj:=(λ_ _ _ _ _ _=>⟨rfl,rfl⟩),ok:=(λ_ _=>m2) }]
  [ZoC (by kernel_rfl) rfl hA,ZoC (by kernel_rfl) rfl hC] rfl
 have q1:=p1 () trivial
 have q2:=p2 () trivial
 have q3:=p3 () trivial
 have q4:=p4 () trivial
 simp only[ZoC]at q1 q2 q3 q4
 clear p1 p2 p3 p4 m1 m2 hE1 hx hC hA
 obtain⟨i,er,a,op⟩:=E
 simp only at hE hat
 subst hE hat
 simp only[hEx,hEy,Y0g,Y0f]at q1 q2
 refine Z3a Zux 3 follows Z05 hO Tryz.func15 rfl ?_
 repeat' ((conv=>whnf);first|refine exI (q3 _) ?_|refine exI q1 ?_|refine exI (q4 _) ?_|refine exI q2 ?_|refine stp ?_|with_reducible apply Z01<;>intro h)
 all_goals (try (conv=>whnf))
 all_goals rfl
end
section
variable {gl:Z0l}
theorem ZhR(p:Pr)(hok:okP p)(hg:rgP p)(hc:Z0y p=0)(hl:(prT p).length<=65536):ValOK Y00 gl 11 [.str (prT p)] (.tuple [p.av,.agg [.int .i64 0,.int .i64 0]]):=by
 obtain⟨c1,c2,c3,c4⟩:=Z3d hc
 have hX:∀t∈p.threads,∀x∈t,XSt x:=λt ht=>Zd3 (Z4S c4 t ht) (Z6K hg.2 t ht)
 have hD:∀t∈p.threads,deepSL t<=90:=λt ht=>by have:=Z6k t ht;omega
 have hd:∀d∈p.decls,Z0Z d.name=true/\0<=d.val:=λd h=>by
  have:=List.all_eq_true.1 c3 d h
  unfold dcB at this
  simpa using this
 obtain⟨l,h1,h2⟩:=(Zuo p (λd h=>⟨(hd d h).1,(hd d h).2,hg.1 d h⟩) hX).all
 have hA:=Zaj (gl:=gl) (prT p) hl
 rw[ZeM h2 hl]at hA
 obtain⟨m,b1,b2⟩:=Zqd hX hD (λd h=>(hd d h).2) (prT p).length h1
 have hC:=Z5F (gl:=gl) p hok (by omega)
 rw[hc]at hC
 exact ZmO (ZiS h2 hl) hA b1 rfl rfl b2 hC (by decide)
theorem Zpl{e:Ex}(h:Z1u e=0):Z0C e<=2000/\Z0P e<=32/\Z0p e=true:=by
 unfold Z1u at h
 split at h
 ·cases h
 · rename_i h1
   split at h
   · rename_i h2
     exact⟨by omega,by omega,h2⟩
   ·cases h
theorem Zkn(e:Ex)(hok:okE e)(hg:rgE e)(hc:Z1u e=0)(hl:(wrE e).length<=65536):ValOK Y00 gl 15 [.str (wrE e)] (.tuple [.agg e.cells,.agg [.int .i64 0,.int .i64 0]]):=by
 obtain⟨c1,c2,c3⟩:=Zpl hc
 have hx:=ZiG _ e (Y0a _) c3 hg
 have hL:=(Zfe hx).2 [] [] ZtA ZjG
 rw[Y09,Y09]at hL
 obtain⟨l,h1,h2⟩:=hL.all
 have hA:=Zaj (gl:=gl) (wrE e) hl
 rw[ZeM h2 hl]at hA
 obtain⟨b1,b2⟩:=Zrl hx (by omega) (wrE e).length h1
 have hC:=Zbv (gl:=gl) e hok (by omega)
 rw[hc]at hC
 exact ZmM (ZiS h2 hl) hA b1 rfl rfl b2 hC (by decide)
end
section
variable {gl:Z0l}
theorem Zam{α : Type}(f : α -> α -> Bool):∀{a:List α},(∀x∈a,f x x=true)->Z5Q f a a=true
 |[],_=>rfl
 |x::a,h=>by simp only[Z5Q,h x (by simp),Zam f (a:=a) λy hy=>h y (by simp[hy]),Y0o]
end
section
def Z4P(d e:Dc):Bool:=d.name==e.name&&(d.plain==e.plain&&(d.val==e.val&&true))
theorem tgT:Z4H Y00 9=some false:=by kernel_rfl
theorem tgB:Z4H Y00 4=some false:=by kernel_rfl
theorem tgI:Z4H Y00 2=some false:=by kernel_rfl
theorem feD:Z4p Y00 61=some [(9,0),(4,1),(2,2)]:=by kernel_rfl
theorem egD:Y00.eqGuardType Y00.depth 61=false:=by kernel_rfl
theorem ZvY(d e:Dc):ZcP Y00 61 [.str d.name,.bool d.plain,.int .i64 d.val] [.str e.name,.bool e.plain,.int .i64 e.val]=some (Z4P d e) :=
 Zo7 egD feD (ZcA tgT rfl rfl (Zro Tryz.underlying9 _ _) (ZcA tgB rfl rfl (ZnH Tryz.underlying4 _ _) (ZcA tgI rfl rfl (Zrp Tryz.underlying2 _ _) rfl)))
theorem Zf1(d:Dc):Z4P d d=true:=by simp[Z4P]
end
section
variable {gl:Z0l}
def ZmE(p q:Pr):Bool:=Z5Q Z4P p.decls q.decls&&Z5Q sameSL p.threads q.threads
theorem ZhG(p:Pr):ZmE p p=true:=by
 unfold ZmE
 rw[Zam Z4P (λd _=>Zf1 d),Zam sameSL (λt _=>sameSL_self t)]
 rfl
theorem Znd(p q:Pr)(hp:okP p):ValOK Y00 gl 12 [p.av,q.av] (.bool (ZmE p q)):=by
 obtain⟨O,hO,p1,-⟩:=fams (P:=Y00) (gl:=gl) [famTwoL (g:=27) (by kernel_rfl) (λp=>okSL p.1/\p.1.length<=9223372036854775807) (λp hp=>Z9J _ p.1 p.2 (Y0a _) hp.1 hp.2)] rfl
 have q1:∀x y,okSL x->x.length<=9223372036854775807->∀H,Z03 Y00 O H 27 [stA x,stA y]=some (.bool (sameSL x y),H):=λx y h1 h2=>p1 (x,y) ⟨h1,h2⟩
 clear p1
 unfold ZmE
 obtain⟨ds,ts⟩:=p
 obtain⟨ds',ts'⟩:=q
 obtain⟨⟨hd1,hd2⟩,ht1,ht2⟩:=hp
 simp only[Pr.av]at *
 refine Z0d follows Z05 hO Tryz.func12 rfl ?_
 by_cases hl1:ds.length=ds'.length
 case neg =>
  rw[Z7g _ _ _ hl1,Bool.false_and]
  have e0:((ds.length:Int) != (ds'.length:Int))=true:=Z5V (b:=false) (by simpa using (λh=>hl1 (by omega)))
  repeat' ((conv=>whnf);first|refine stp ?_|with_reducible apply Z01<;>intro h)
  all_goals rfl
 have e0:((ds.length:Int) != (ds'.length:Int))=false:=Z5V (b:=true) (by rw[hl1];simp)
 by_cases hl2:ts.length=ts'.length
 case neg =>
  rw[Z7g _ ts ts' hl2,Bool.and_false]
  have e1:((ts.length:Int) != (ts'.length:Int))=true:=Z5V (b:=false) (by simpa using (λh=>hl2 (by omega)))
  repeat' ((conv=>whnf);first|refine stp ?_|with_reducible apply Z01<;>intro h)
  all_goals rfl
 have e1:((ts.length:Int) != (ts'.length:Int))=false:=Z5V (b:=true) (by rw[hl2];simp)
 repeat' ((conv=>whnf);first|refine stp ?_|with_reducible apply Z01<;>intro h)
 conv=>whnf
 refine⟨Nat,(λi=>i<=ds.length/\Z5Q Z4P (ds.take i) (ds'.take i)=true),(λi=>[(2,.ptr 0 0),(3,.ptr 1 0),(5,.int .i64 i)]),(λ_=>[⟨true,0,0,.cells [.rs ds.length 3 (dcC ds),.rs ts.length 1 (ts.map stA)] 25⟩,⟨true,1,0,.cells [.rs ds'.length 3 (dcC ds'),.rs ts'.length 1 (ts'.map stA)] 25⟩]),(λi=>ds.length-i),⟨0,⟨Y0h _,rfl⟩,FgL.mk [0,1] rfl ?_ ⟨hbp,hbp,trivial⟩ rfl⟩,?_⟩
 ·exact wks
 rintro i ⟨hi,hall⟩
 dsimp only
 by_cases hlt:i<ds.length
 · have e2:decide ((i:Int)<(ds.length:Int))=true:=by simpa using hlt
   have hlt':i<ds'.length:=by omega
   have hat:=Z5h Z4P ds ds' i hlt hlt'
   rw[hall,Y0o]at hat
   have hfalse:Z4P ds[i] ds'[i]=false->Z5Q Z4P ds ds'=false:=Z7h Z4P hlt hlt'
   have hx:=dc3 ds i hlt
   have hy:=dc3 ds' i hlt'
   have hc:=ZvY ds[i] ds'[i]
   generalize ds[i]=x at *
   generalize ds'[i]=y at *
   generalize Z4P x y=w at *
   obtain⟨xn,xp,xv⟩:=x
   obtain⟨yn,yp,yv⟩:=y
   simp only[Dc.cells]at hx hy hc
   cases w with
   |true =>
    repeat' ((conv=>whnf);first|(with_reducible refine ixJ i rfl ?_ ?_;focus omega)|refine exI hx ?_|refine exI hy ?_|refine exI hc ?_|refine stp ?_|with_reducible apply Z01<;>intro h)
    conv=>whnf
    refine⟨i+1,⟨hlt,hat⟩,by show ds.length-(i+1)<ds.length-i;omega,FgL.mk [0,1] rfl ?_ ⟨hbp,hbp,trivial⟩ rfl⟩
    exact wks
   |false =>
    rw[hfalse rfl,Bool.false_and]
    repeat' ((conv=>whnf);first|(with_reducible refine ixJ i rfl ?_ ?_;focus omega)|refine exI hx ?_|refine exI hy ?_|refine exI hc ?_|refine stp ?_|with_reducible apply Z01<;>intro h)
    all_goals rfl
 · have e2:decide ((i:Int)<(ds.length:Int))=false:=by simpa using hlt
   have hi2:i=ds.length:=by have:=hi;omega
   subst hi2
   rw[Y0p,hl1,Y0p]at hall
   rw[hall,Y0o]
   repeat' ((conv=>whnf);first|refine stp ?_|with_reducible apply Z01<;>intro h)
   conv=>whnf
   refine⟨Nat,(λi=>i<=ts.length/\Z5Q sameSL (ts.take i) (ts'.take i)=true),(λi=>[(2,.ptr 0 0),(3,.ptr 1 0),(6,.int .i64 i)]),(λ_=>[⟨true,0,0,.cells [.rs ds.length 3 (dcC ds),.rs ts.length 1 (ts.map stA)] 25⟩,⟨true,1,0,.cells [.rs ds'.length 3 (dcC ds'),.rs ts'.length 1 (ts'.map stA)] 25⟩]),(λi=>ts.length-i),⟨0,⟨Y0h _,rfl⟩,FgL.mk [0,1] rfl ?_ ⟨hbp,hbp,trivial⟩ rfl⟩,?_⟩
   ·exact wks
   clear hall hi
   rintro i ⟨hi,hall⟩
   dsimp only
   by_cases hlt:i<ts.length
   · have e3:decide ((i:Int)<(ts.length:Int))=true:=by simpa using hlt
     have hlt':i<ts'.length:=by omega
     have hat:=Z5h sameSL ts ts' i hlt hlt'
     rw[hall,Y0o]at hat
     have hfalse:sameSL ts[i] ts'[i]=false->Z5Q sameSL ts ts'=false:=Z7h sameSL hlt hlt'
     have hx:=th1 ts i hlt
     have hy:=th1 ts' i hlt'
     have hk:=Z2N ht1 _ (Z0i hlt)
     have q2:=q1 ts[i] ts'[i] hk.1 hk.2
     generalize ts[i]=x at *
     generalize ts'[i]=y at *
     generalize sameSL x y=w at *
     simp only[stA]at hx hy q2
     cases w with
     |true =>
      repeat' ((conv=>whnf);first|with_reducible refine exI (q2 _) ?_|(with_reducible refine ixJ i rfl ?_ ?_;focus omega)|refine exI hx ?_|refine exI hy ?_|refine stp ?_|with_reducible apply Z01<;>intro h)
      conv=>whnf
      refine⟨i+1,⟨hlt,hat⟩,by show ts.length-(i+1)<ts.length-i;omega,FgL.mk [0,1] rfl ?_ ⟨hbp,hbp,trivial⟩ rfl⟩
      exact wks
     |false =>
      rw[hfalse rfl]
      repeat' ((conv=>whnf);first|with_reducible refine exI (q2 _) ?_|(with_reducible refine ixJ i rfl ?_ ?_;focus omega)|refine exI hx ?_|refine exI hy ?_|refine stp ?_|with_reducible apply Z01<;>intro h)
      all_goals rfl
   · have e3:decide ((i:Int)<(ts.length:Int))=false:=by simpa using hlt
     have hi2:i=ts.length:=by have:=hi;omega
     subst hi2
     rw[Y0p,hl2,Y0p]at hall
     rw[hall]
     repeat' ((conv=>whnf);first|refine stp ?_|with_reducible apply Z01<;>intro h)
     all_goals rfl
end
end Go.Proofs.YtkkfcfjhhdmamaaGreatDoor.lex
section
namespace Go.Proofs.YtkkfcfjhhdmamaaGreatDoor.lex
open Go.Abs Go.RowKit
theorem zhLaw(p:Pr)(e:Ex)(hp:okP p/\rgP p)(he:okE e/\rgE e):ValOK Y00 runLives.gl 3 [p.av,.agg e.cells] (.bool true):=by
 obtain⟨TP,hTP⟩:∃t,(if Z0y p=0 then prT p else [])=t:=⟨_,rfl⟩
 obtain⟨TE,hTE⟩:∃t,(if Z1u e=0 then wrE e else [])=t:=⟨_,rfl⟩
 have lp:Z1z p 3000=true->Z0x p.threads<=1000000:=λh=>by have:=Z9G p 3000 h;omega
 have le:0<=Z1y e 3000->Z0C e<=1048576:=λh=>by have:=Zbf e 3000 h;omega
 have tp:Z0y p=0->prT p=TP:=λh=>by rw[<- hTP,if_pos h]
 have te:Z1u e=0->wrE e=TE:=λh=>by rw[<- hTE,if_pos h]
 obtain⟨O,hO,p1,p2,p3,p4,p5,p6,p7,p8,p9,p10,p11,-⟩:=fams (P:=Y00) (gl:=runLives.gl) [
  one0 (f:=6) (A:=[]) (R:=.bool true) True (by kernel_rfl) rfl (λ_=>ZoL),
  one0 (f:=7) (A:=[p.av,.int .i64 3000]) (R:=.bool (Z1z p 3000)) True (by kernel_rfl) rfl (λ_=>ZdC p 3000 hp.1 (by omega) (by omega)),
  one0 (f:=8) (A:=[.agg e.cells,.int .i64 3000]) (R:=.bool (decide (0<=Z1y e 3000))) True (by kernel_rfl) (by have:=Z4q e;simpa[refsL,Z1m]using this) (λ_=>Zn7 e 3000 he.1 (by omega) (by omega)),
  one0 (f:=9) (A:=[p.av]) (R:=.tuple [.str TP,.int .i64 (Z0y p)]) (Z1z p 3000=true) (by kernel_rfl) rfl (λh=>hTP ▸ ZmI p hp.1 hp.2 (lp h) (Zug hp.2 h)),
  one0 (f:=10) (A:=[p.av]) (R:=.int .i64 (Z0y p)) (Z1z p 3000=true) (by kernel_rfl) rfl (λh=>Z5F p hp.1 (by have:=lp h;omega)),
  one0 (f:=11) (A:=[.str TP]) (R:=.tuple [p.av,.agg [.int .i64 0,.int .i64 0]]) (Z0y p=0/\TP.length<=65536) (by kernel_rfl) rfl (λh=>tp h.1 ▸ ZhR p hp.1 hp.2 h.1 (tp h.1 ▸ h.2)),
  one0 (f:=12) (A:=[p.av,p.av]) (R:=.bool true) True (by kernel_rfl) rfl (λh=>by have:=Znd (gl:=runLives.gl) p p hp.1;rw[ZhG]at this;exact this),
  one0 (f:=13) (A:=[.agg e.cells]) (R:=.tuple [.str TE,.int .i64 (Z1u e)]) (0<=Z1y e 3000) (by kernel_rfl) (Zp2 e) (λh=>hTE ▸ ZnF e he.1 he.2 (le h) (λ_=>ZuI he.2 h)),
  one0 (f:=14) (A:=[.agg e.cells]) (R:=.int .i64 (Z1u e)) (0<=Z1y e 3000) (by kernel_rfl) (Zp2 e) (λh=>Zbv e he.1 (le h)),
  one0 (f:=15) (A:=[.str TE]) (R:=.tuple [.agg e.cells,.agg [.int .i64 0,.int .i64 0]]) (Z1u e=0/\TE.length<=65536) (by kernel_rfl) rfl (λh=>te h.1 ▸ Zkn e he.1 he.2 h.1 (te h.1 ▸ h.2)),
  one0 (f:=16) (A:=[.agg e.cells,.agg e.cells]) (R:=.bool true) True (by kernel_rfl) (Zg9 e e) (λh=>by have:=Zcj (gl:=runLives.gl) _ e e (Y0a _) he.1;rw[ZaW]at this;exact this)] rfl
 have q1:∀H,Z03 Y00 O H 6 []=some (.bool true,H):=λH=>p1 () trivial H
 have q2:∀H,Z03 Y00 O H 7 [p.av,.int .i64 3000]=some (.bool (Z1z p 3000),H):=λH=>p2 () trivial H
 have q3:∀H,Z03 Y00 O H 8 [.agg e.cells,.int .i64 3000]=some (.bool (decide (0<=Z1y e 3000)),H):=λH=>p3 () trivial H
 have q4:Z1z p 3000=true->∀H,Z03 Y00 O H 9 [p.av]=some (.tuple [.str TP,.int .i64 (Z0y p)],H):=λh H=>p4 () h H
 have q5:Z1z p 3000=true->∀H,Z03 Y00 O H 10 [p.av]=some (.int .i64 (Z0y p),H):=λh H=>p5 () h H
 have q6:Z0y p=0/\TP.length<=65536->∀H,Z03 Y00 O H 11 [.str TP]=some (.tuple [p.av,.agg [.int .i64 0,.int .i64 0]],H):=λh H=>p6 () h H
 have q7:∀H,Z03 Y00 O H 12 [p.av,p.av]=some (.bool true,H):=λH=>p7 () trivial H
 have q8:0<=Z1y e 3000->∀H,Z03 Y00 O H 13 [.agg e.cells]=some (.tuple [.str TE,.int .i64 (Z1u e)],H):=λh H=>p8 () h H
 have q9:0<=Z1y e 3000->∀H,Z03 Y00 O H 14 [.agg e.cells]=some (.int .i64 (Z1u e),H):=λh H=>p9 () h H
 have q10:Z1u e=0/\TE.length<=65536->∀H,Z03 Y00 O H 15 [.str TE]=some (.tuple [.agg e.cells,.agg [.int .i64 0,.int .i64 0]],H):=λh H=>p10 () h H
 have q11:∀H,Z03 Y00 O H 16 [.agg e.cells,.agg e.cells]=some (.bool true,H):=λH=>p11 () trivial H
 clear p1 p2 p3 p4 p5 p6 p7 p8 p9 p10 p11 hTP hTE lp le hp he tp te
 generalize Z0y p=c1 at *
 generalize Z1u e=c2 at *
 generalize Z1z p 3000=l1 at *
 generalize Z1y e 3000=h3 at *
 obtain⟨ds,ts⟩:=p
 obtain⟨op,num,name,kids⟩:=e
 simp only[Pr.av,Ex.cells]at *
 have f1:(TP==TP)=true:=by simp
 have f3:((c2 != 0)==(c2 != 0))=true:=by simp
 have qF:ZcP Y00 37 [.int .i64 0,.int .i64 0] [.int .i64 0,.int .i64 0]=some true:=by kernel_rfl
 refine Z0d follows Z05 hO Tryz.func3 rfl ?_
 cases l1 with
 |false =>
  repeat' ((conv=>whnf);first|with_reducible refine exI (q1 _) ?_|with_reducible refine exI (q2 _) ?_|refine stp ?_|with_reducible apply Z01<;>intro h)
  all_goals rfl
 |true =>
  have q4:=q4 rfl
  have q5:=q5 rfl
  by_cases g3:0<=h3
  case neg =>
   have e3:decide (0<=h3)=false:=by simpa using g3
   rw[e3]at q3
   repeat' ((conv=>whnf);first|with_reducible refine exI (q1 _) ?_|with_reducible refine exI (q2 _) ?_|with_reducible refine exI (q3 _) ?_|refine stp ?_|with_reducible apply Z01<;>intro h)
   all_goals rfl
  have e3:decide (0<=h3)=true:=by simpa using g3
  rw[e3]at q3
  have q8:=q8 g3
  have q9:=q9 g3
  clear g3 e3
  have H:∀(c:Int)(t:List UInt8),c=0/\t.length<=65536\/c=0/\¬t.length<=65536\/¬c=0:=λc t=>by omega
  rcases H c1 TP with ⟨rfl,hl1⟩|⟨rfl,hl1⟩|hc1<;>rcases H c2 TE with ⟨rfl,hl2⟩|⟨rfl,hl2⟩|hc2
  all_goals (try have d0:decide ((TP.length:Int)<=65536)=true:=by simp;omega)
  all_goals (try have d1:decide ((TP.length:Int)<=65536)=false:=by simp;omega)
  all_goals (try have d2:decide ((TE.length:Int)>65536)=true:=by simp;omega)
  all_goals (try have d3:decide ((TE.length:Int)>65536)=false:=by simp;omega)
  all_goals (try have r6:=q6 ⟨rfl,hl1⟩)
  all_goals (try have r10:=q10 ⟨rfl,hl2⟩)
  all_goals (try have g1:(c1==0)=false:=by simpa using hc1)
  all_goals (try have g2:(c1 != 0)=true:=by simpa using hc1)
  all_goals (try have g3:(c2==0)=false:=by simpa using hc2)
  all_goals (try have g4:(c2 != 0)=true:=by simpa using hc2)
  all_goals (repeat' ((conv=>whnf);first|refine exI qF ?_|(with_reducible first|refine exI (q1 _) ?_|refine exI (q2 _) ?_|refine exI (q3 _) ?_|refine exI (q4 _) ?_|refine exI (q5 _) ?_|refine exI (r6 _) ?_|refine exI (q7 _) ?_|refine exI (q8 _) ?_|refine exI (q9 _) ?_|refine exI (r10 _) ?_|refine exI (q11 _) ?_)|refine stp ?_|with_reducible apply Z01<;>intro h))
  all_goals (try (conv=>whnf))
  all_goals first|rfl|(rw[f1];rfl)|(rw[f3];rfl)
end Go.Proofs.YtkkfcfjhhdmamaaGreatDoor.lex
namespace Go.Proofs.YtkkfcfjhhdmamaaGreatDoor.zhLaw
open Go.Abs Go.RowKit
def Qs:List (AV->Prop):=[λu=>∃p:lex.Pr,u=p.av/\lex.okP p/\lex.rgP p,λu=>∃e:lex.Ex,u = .agg e.cells/\lex.okE e/\lex.rgE e]
theorem opens:Z7k Y00 Tryz.f3.params.toList Qs:=by
 rw[Tryz.params3]
 exact⟨lex.opensP,lex.opensX,trivial⟩
theorem law(us:List AV)(h:Zpk Qs us):ValOK Y00 runLives.gl 3 us (.bool true):=by
 obtain⟨_,_,rfl,⟨p,rfl,hp⟩,h1⟩:=Zak h
 obtain⟨_,_,rfl,⟨e,rfl,he⟩,h2⟩:=Zak h1
 cases Zhn h2
 exact lex.zhLaw p e hp he
theorem solid:Solid Y00:=by unfold Solid;kernel_rfl
end Go.Proofs.YtkkfcfjhhdmamaaGreatDoor.zhLaw
end

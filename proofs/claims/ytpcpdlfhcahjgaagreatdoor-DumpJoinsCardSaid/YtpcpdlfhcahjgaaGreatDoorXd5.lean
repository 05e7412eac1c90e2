/-
  Texts of this proof, one behind the other (part 5).
-/
import Derived.Test.YtpcpdlfhcahjgaaGreatDoorXd4
import Derived.Lib.ParseIntBCases
import Derived.Shelf.Strconv.AtoiAll
import Derived.Shelf.Strconv.ParseIntPublic10
set_option linter.unusedVariables false
set_option linter.unusedSimpArgs false
set_option maxRecDepth 100000
set_option maxHeartbeats 4000000
open Go.Proofs.Tryz renaming prog → Y00
open And renaming intro → Y01
open Go.Abs.Wk renaming ptr → Y02,noref → Y07,func → Y0a,slice → Y0j
open List renaming length_cons → Y03,length_append → Y05,cons_append → Y08,nil_append → Y0b,length_nil → Y0c,getElem?_eq_getElem → Y0d,getElem?_eq_some_iff → Y0e,getElem_mem → Y0f,getElem?_append_left → Y0g,append_nil → Y0i,take_length → Y0k,getElem?_append_right → Y0m,map_cons → Y0n,mem_of_getElem? → Y0o,append_assoc → Y0p,length_map → Y0q
open Nat renaming le_refl → Y04,beq → Y09,zero_le → Y0h
open Go.Abs.BodyGe renaming pre → Y06
open Bool renaming and_eq_true → Y0l
open Option renaming map_some → Y0r
namespace Go.Proofs.YtpcpdlfhcahjgaaGreatDoor.lex
open Go.Abs Go.RowKit
section
structure TxG (g:DGr):Prop where
 ok:okG g
 fl:g.frm.length=g.thr.length
 fe:∀k (h:k<g.thr.length) (h':k<g.frm.length),g.frm[k].length=g.thr[k].length
 or1:∀o∈g.ord,o.length<=100
 s1:g.ini.length<=100
 s2:g.thr.length<=100
 s3:g.ord.length<=100
 s4:∀l∈g.thr,l.length<=100
 few:(Z0y g).length<=1000000000
def HB(gc:List AV)(s:List UInt8):Z00:=[⟨true,0,0,.cells gc 33⟩,⟨true,1,0,.cells [.ptr 1 0,.slice 2 0 s.length s.length 1] tS⟩,⟨true,2,0,.cells (byt s) tB⟩]
theorem Zfa{t0 tm:Tr}{H:Z00}{l:List (Nat×AV)}{c fc:Nat}{gc:List AV}{s1 s:List UInt8}(h:Z7Z t0 tm=true)(e:s1=s)(hg:refsL gc []=[])(hg0:H[0]? = some ⟨true,0,0,.cells gc 33⟩)(h0:H[1]? = some ⟨true,1,0,.cells [.ptr 1 0,.slice c 0 s1.length s1.length 1] tS⟩)(h1:H[c]? = some ⟨true,fc,0,.cells (byt s1) tB⟩)(hn:Y09 0 fc=false)(hn2:Y09 1 fc=false)(hsl:SlotsGe [0,1,c] tm l):FgL t0 tm H l (HB gc s):=by
 subst e
 refine FgL.mk [0,1,c] h hsl ⟨onOI hg0 ⟨rfl,rfl,rfl,rfl,Y06 (rest:=[]) (by rw[Y0i]) hg⟩,onOI h0 ⟨rfl,rfl,rfl,rfl,BodyGe.cellsL ⟨Y02 rfl rfl,Y0j rfl rfl rfl (Y04 _) (Y04 _) rfl,trivial⟩⟩,onOI h1 ⟨rfl,rfl,rfl,rfl,Y06 (rest:=[]) (by rw[Y0i]) (Go.Abs.byt_refs _ _)⟩,trivial⟩ ?_
 have a1:¬0=fc:=λe=>by rw[<- e]at hn;simp at hn
 have a2:¬1=fc:=λe=>by rw[<- e]at hn2;simp at hn2
 simp only[List.map,Z0m,hg0,h0,h1,Z0S,mem]
 simp[a1,a2]
 exact⟨⟨rfl,hn⟩,hn2⟩
theorem uB:Y00.underlying 73=some (.pointer 5):=by kernel_rfl
theorem cB:Y00.cellsOf 5=1:=by kernel_rfl
theorem ZjC{H:Z00}{b f:Nat}{s:List UInt8}(h0:s≠[])(hs:s.length<=1099511627776)(hH:H[b]? = some ⟨true,f,0,.cells (byt s) tB⟩):ZaZ Y00 73 (.ptr b 0) s.length H=some (.str s,(Z3G b f H).set b ⟨false,f,0,.cells [] 0⟩):=ustr_ok uB cB hH h0 hs
theorem ZiO {orc : Orc} {ρ : Operand -> Option AV} {o : Oper} {H : Z00} {x y : Operand} {b f : Nat} {s : List UInt8} (ho : o.op = .call { callee := .builtin .unsafeString, args := #[x, y], argTypes := #[73, 3] }) (hx : ρ x = some (.ptr b 0)) (hy : ρ y = some (.int .i64 (s.length : Int)))
  (h0:s≠[]) (hs:s.length<=1099511627776) (hH:H[b]? = some ⟨true,f,0,.cells (byt s) tB⟩):aop Y00 orc ρ o H=some (.str s,(Z3G b f H).set b ⟨false,f,0,.cells [] 0⟩):=by
 have h1:=ZjC h0 hs hH
 have h2:Z0q Y00 ρ H o=none:=by simp[Z0q,Z2q,ho]
 have h3:Z7H Y00 ρ H o=ZaZ Y00 73 (.ptr b 0) s.length H:=by
  simp only[Z7H,ho,hx,hy]
 unfold aop
 simp only[ho,callee,h2,h3,h1]
def idV:List (List UInt8)->AV
 |[]=>.nslice
 |c::r=>.slice 3 0 (r.length+1) (r.length+1) 1
def idB:List (List UInt8)->Z00
 |[]=>[]
 |c::r=>[⟨true,3,0,.cells ((c::r).map AV.str) 9⟩]
theorem ZnA{t0 tm:Tr}{H:Z00}{l:List (Nat×AV)}{d fd:Nat}{gc cs:List AV}{s:List UInt8}(h:Z7Z t0 tm=true)(hg:refsL gc []=[])(hcs:refsL cs []=[])(hg0:H[0]? = some ⟨true,0,0,.cells gc 33⟩)(h0:H[1]? = some ⟨true,1,0,.cells [.ptr 1 0,.slice 2 0 s.length s.length 1] tS⟩)(h1:H[2]? = some ⟨true,2,0,.cells (byt s) tB⟩)(h3:H[d]? = some ⟨true,fd,0,.cells cs 9⟩)(hn:Y09 0 fd=false)(hn2:Y09 1 fd=false)(hn3:Y09 2 fd=false)(hsl:SlotsGe [0,1,2,d] tm l):FgL t0 tm H l (HB gc s++[⟨true,3,0,.cells cs 9⟩]):=by
 refine FgL.mk [0,1,2,d] h hsl ⟨onOI hg0 ⟨rfl,rfl,rfl,rfl,Y06 (rest:=[]) (by rw[Y0i]) hg⟩,onOI h0 ⟨rfl,rfl,rfl,rfl,BodyGe.cellsL ⟨Y02 rfl rfl,Y0j rfl rfl rfl (Y04 _) (Y04 _) rfl,trivial⟩⟩,onOI h1 ⟨rfl,rfl,rfl,rfl,Y06 (rest:=[]) (by rw[Y0i]) (Go.Abs.byt_refs _ _)⟩,onOI h3 ⟨rfl,rfl,rfl,rfl,Y06 (rest:=[]) (by rw[Y0i]) hcs⟩,trivial⟩ ?_
 have a1:¬0=fd:=λe=>by rw[<- e]at hn;simp at hn
 have a2:¬1=fd:=λe=>by rw[<- e]at hn2;simp at hn2
 have a3:¬2=fd:=λe=>by rw[<- e]at hn3;simp at hn3
 simp only[List.map,Z0m,hg0,h0,h1,h3,Z0S,mem]
 simp[a1,a2,a3,hn,hn2,hn3]
 decide
theorem Zar(e:DEv)(f:DId)(hf:okD f):(Z2f e f).length<=50:=by
 unfold Z2f
 split
 · refine Nat.le_trans (Z2k _) ?_
   have h1:=Z0N hf.1
   have h2:=Z0N hf.2
   simp only[Z2u,Z31,idT,Y03,Y0c,Y05];omega
 ·exact Y0h _
theorem Z8X(f:DId)(hf:okD f):(idT f).length<=43:=by
 have h1:=Z0N hf.1
 have h2:=Z0N hf.2
 simp only[idT,Y03,Y05];omega
theorem ZgB(e:DEv)(he:okV e):(evT e).length<=100:=Nat.le_trans (Z2k _) (ZgA e he)
theorem Z8W:∀(o:List DId)(h:∀d∈o,okD d),Z2u (o.map idT)<=44*o.length
 |[],_=>Y04 _
 |d::o,h=>by
  have:=Z8W o λd hd=>h d (by simp[hd])
  have:=Z8X d (h d (by simp))
  simp only[Y0n,Z2u,Y03];omega
theorem Zfb(g:DGr)(hg:TxG g):ValOK Y00 runLives.gl 28 [g.av] (.str (Z0y g)):=by
 obtain⟨O1,hO1,⟨xp,-⟩,x1,x2,x3,x4,x5,-⟩:=Z5m (P:=Y00) (gl:=runLives.gl) [bmLine.fam] [
  { I:=Int,f:=45,G:=rgI,A:=(λn=>[.int .i64 n]),R:=(λn=>.str (Z0g n)),body:=(by kernel_rfl),inj:=(λi j _ _ h=>by rw[show i=j by simpa using h]),ok:=(λn h=>⟨rfl,Z6I n h⟩) },
  { I:=Int,f:=46,G:=rgI,A:=(λn=>[.int .i64 n]),R:=(λn=>.str (Z0g n)),body:=(by kernel_rfl),inj:=(λi j _ _ h=>by rw[show i=j by simpa using h]),ok:=(λn h=>⟨rfl,ZbZ n h⟩) },
  { I:=DId,f:=48,G:=okD,A:=(λn=>[.agg (idC n)]),R:=(λn=>.str (idT n)),body:=(by kernel_rfl),inj:=(λi j _ _ h=>by simp[idC]at h;cases i;cases j;simp_all),ok:=(λn h=>⟨rfl,Zmp n h⟩) },
  { I:=DEv,f:=49,G:=okV,A:=(λn=>[.agg (evC n)]),R:=(λn=>.str (evT n)),body:=(by kernel_rfl),inj:=(λi j _ _ h=>by simp[evC]at h;cases i;cases j;simp_all),ok:=(λn h=>⟨rfl,Zmr n h⟩) },
  { I:=DEv,f:=47,G:=(λ_=>True),A:=(λn=>[.agg (evC n)]),R:=(λn=>.bool n.rd),body:=(by kernel_rfl),inj:=(λi j _ _ h=>by simp[evC]at h;cases i;cases j;simp_all),ok:=(λn h=>⟨rfl,ZgG n⟩) }] rfl
 obtain⟨O,hO,qw,hk⟩:=Z9x hO1
 have p1:bmLine.fam.Ask O:=λi gi=>(hk _ (by show ¬(43=44);decide) _ _).trans (xp i gi)
 have r1:∀n,rgI n->∀H,Z02 Y00 O H 45 [.int .i64 n]=some (.str (Z0g n),H):=λn h H=>(hk _ (by decide) _ H).trans (x1 n h H)
 have r2:∀n,rgI n->∀H,Z02 Y00 O H 46 [.int .i64 n]=some (.str (Z0g n),H):=λn h H=>(hk _ (by decide) _ H).trans (x2 n h H)
 have r3:∀n,okD n->∀H,Z02 Y00 O H 48 [.agg (idC n)]=some (.str (idT n),H):=λn h H=>(hk _ (by decide) _ H).trans (x3 n h H)
 have r4:∀n,okV n->∀H,Z02 Y00 O H 49 [.agg (evC n)]=some (.str (evT n),H):=λn h H=>(hk _ (by decide) _ H).trans (x4 n h H)
 have r5:∀n,∀H,Z02 Y00 O H 47 [.agg (evC n)]=some (.bool n.rd,H):=λn H=>(hk _ (by decide) _ H).trans (x5 n trivial H)
 clear hk xp x1 x2 x3 x4 x5
 have hS2:=hg.s2
 have hS1:=hg.s1
 have hS3:=hg.s3
 have hfl:=hg.fl
 have htx:=ZhJ g hfl
 have hfew:=hg.few
 have hI:=λi (hi:i<g.ini.length)=>Z0f (f:=Z2b) (k:=1) (λ_=>rfl) g.ini i hi
 have hT:=λi (hi:i<g.thr.length)=>Z0f (f:=λx=>[rsE x]) (k:=1) (λ_=>rfl) g.thr i hi
 have hF:=λi (hi:i<g.frm.length)=>Z0f (f:=λx=>[rsD x]) (k:=1) (λ_=>rfl) g.frm i hi
 have hR:=λi (hi:i<g.ord.length)=>Z0f (f:=λx=>[rsD x]) (k:=1) (λ_=>rfl) g.ord i hi
 have l0:=r1 g.thr.length ⟨by omega,by omega⟩
 have n0:=Z0N (n:=(g.thr.length:Int)) ⟨by omega,by omega⟩
 have hh:hdT g=Z0s [Z0j,Z0g g.thr.length]:=rfl
 have G0:[Z0j,Z0g g.thr.length].length<=1000/\Z2u [Z0j,Z0g g.thr.length]<=1048576:=⟨by simp,by simp only[Z2u,Z0j,Y03,Y0c];omega⟩
 have hb0:(Z0s [Z0j,Z0g g.thr.length]).length<=1073741824:=by
  rw[<- hh,htx]at *
  unfold t3 t2 t1 at hfew
  simp only[Y05]at hfew;omega
 have hb1:∀k,(t1 g k).length<=1000000000:=λk=>by
  have:=Zi9 g.ini k
  rw[htx]at hfew
  unfold t3 t2 t1 at hfew
  rw[Y0k]at hfew
  unfold t1
  simp only[Y05]at hfew⊢;omega
 have ht1:∀k (h:k<g.ini.length),t1 g (k+1)=t1 g k++Z0s [Z23,Z0g k,Z0g g.ini[k]]:=λk h=>by
  unfold t1;rw[Zep _ _ h,Y0p]
 have hn1:∀k,t1 g k≠[]:=λk=>by unfold t1 hdT Z0s;simp
 have hokI:=hg.ok.1.2
 rw[htx]
 simp only[DGr.av,grC,rsI,Z4T,Z58]
 generalize Z07 Z2b g.ini=XI at *
 generalize Z07 (λx=>[rsE x]) g.thr=XT at *
 generalize Z07 (λx=>[rsD x]) g.frm=XF at *
 generalize Z07 (λx=>[rsD x]) g.ord=XO at *
 have hgr:refsL [AV.rs g.ini.length 1 XI,.rs g.thr.length 1 XT,.rs g.frm.length 1 XF,.rs g.ord.length 1 XO] []=[]:=rfl
 refine Z0u (λg=>!(Y09 g 20)) 1 follows Z0a hO Tryz.func28 rfl ?_
 repeat' ((conv=>whnf);first|with_reducible refine exI (l0 _) ?_|(refine Znt (ZmU p1 [Z0j,Z0g g.thr.length] G0 hb0 rfl rfl rfl rfl rfl) ?_)|refine stp ?_|with_reducible apply Z01<;>intro h)
 conv=>whnf
 refine⟨Nat,(λk=>k<=g.ini.length),(λk=>[(1,.ptr 0 0),(3,.ptr 1 0),(4,.func (.func 43) [] [.ptr 1 0]),(26,.rs g.ini.length 1 XI),(27,.int .i64 g.ini.length),(28,.int .i64 (k:Nat))]),(λk=>HB [AV.rs g.ini.length 1 XI,.rs g.thr.length 1 XT,.rs g.frm.length 1 XF,.rs g.ord.length 1 XO] (t1 g k)),(λk=>g.ini.length-k),⟨0,Y0h _,?_⟩,?_⟩
 · refine Zfa rfl (by simp[t1,hdT,Z2o]) hgr rfl rfl rfl rfl rfl ?_
   refine Y01 (Y02 rfl rfl) (Y01 (Y02 rfl rfl) (Y01 (Y0a trivial ⟨Y02 rfl rfl,trivial⟩) ?_))
   exact wks
 intro k hk
 dsimp only at hk⊢
 by_cases hlt:k<g.ini.length
 · have e1:decide ((k:Int)<(g.ini.length:Int))=true:=by simpa using hlt
   have hx:=hI k hlt
   have h1:=ht1 k hlt
   have h2:=hb1 (k+1)
   have h3:=hn1 k
   have rk:rgI (k:Int):=⟨by omega,by omega⟩
   have rv:=hokI _ (Y0f hlt)
   have qk:=r1 k rk
   have qv:=r2 g.ini[k] rv
   have nk:=Z0N rk
   have nv:=Z0N rv
   rw[h1]at h2
   generalize g.ini[k]=v at *
   have G1:[Z23,Z0g k,Z0g v].length<=1000/\Z2u [Z23,Z0g k,Z0g v]<=1048576:=⟨by simp,by simp only[Z2u,Z23,Y03,Y0c];omega⟩
   generalize t1 g k=X at *
   have h4:(X++Z0s [Z23,Z0g k,Z0g v]).length<=1073741824:=by omega
   generalize Z0g (k:Int)=NK at *
   generalize Z0g v=NV at *
   simp only[Z2b]at hx
   clear G0 hb0 hb1 ht1 hn1 hT hF hR hfew htx n0 l0 hh h2
   simp only[HB]
   repeat' ((conv=>whnf);first|with_reducible refine exI (qk _) ?_|with_reducible refine exI (qv _) ?_|(with_reducible refine ixJ k rfl ?_ ?_;focus omega)|refine exI hx ?_|(refine ZeG (ZdZ p1 [Z23,NK,NV] G1 h3 h4 rfl rfl rfl rfl rfl rfl) ?_)|refine stp ?_|with_reducible apply Z01<;>intro h)
   conv=>whnf
   refine⟨k+1,hlt,by show g.ini.length-(k+1)<g.ini.length-k;omega,?_⟩
   (try dsimp only)
   refine Zfa rfl h1.symm hgr rfl rfl rfl rfl rfl ?_
   refine Y01 (Y02 rfl rfl) (Y01 (Y02 rfl rfl) (Y01 (Y0a trivial ⟨Y02 rfl rfl,trivial⟩) ?_))
   exact wks
 have ek:k=g.ini.length:=by omega
 subst ek
 have e1:decide (((g.ini.length:Nat):Int)<(g.ini.length:Int))=false:=decide_eq_false (by omega)
 clear G0 hb0 hb1 ht1 l0 n0 hlt hk
 simp only[HB]
 repeat' ((conv=>whnf);first|refine stp ?_|with_reducible apply Z01<;>intro h)
 conv=>whnf
 have hb2:∀k,(t2 g k).length<=1000000000:=λk=>by
  have:=ZhH g.thr g.frm k hfl.symm
  rw[htx]at hfew
  unfold t3 t2 at hfew
  rw[show g.frm.take g.thr.length=g.frm by rw[<- hfl,Y0k],Y0k]at hfew
  unfold t2
  simp only[Y05]at hfew⊢;omega
 have h0:t1 g g.ini.length=t2 g 0:=by unfold t2;simp[Z1q]
 have hn2:∀k,t2 g k≠[]:=λk=>by unfold t2;simp[hn1]
 refine⟨Nat,(λk=>k<=g.thr.length),(λk=>[(1,.ptr 0 0),(3,.ptr 1 0),(4,.func (.func 43) [] [.ptr 1 0]),(42,.rs g.thr.length 1 XT),(43,.int .i64 g.thr.length),(44,.int .i64 (k:Nat))]),(λk=>HB [AV.rs g.ini.length 1 XI,.rs g.thr.length 1 XT,.rs g.frm.length 1 XF,.rs g.ord.length 1 XO] (t2 g k)),(λk=>g.thr.length-k),⟨0,Y0h _,?_⟩,?_⟩
 · refine Zfa rfl h0 hgr rfl rfl rfl rfl rfl ?_
   refine Y01 (Y02 rfl rfl) (Y01 (Y02 rfl rfl) (Y01 (Y0a trivial ⟨Y02 rfl rfl,trivial⟩) ?_))
   exact wks
 clear h0 hn1 hI
 intro k hk
 dsimp only at hk⊢
 by_cases hlt:k<g.thr.length
 · have e1:decide ((k:Int)<(g.thr.length:Int))=true:=by simpa using hlt
   have hlf:k<g.frm.length:=by omega
   have hx:=hT k hlt
   have hxf:=hF k hlf
   simp only[HB]
   repeat' ((conv=>whnf);first|(with_reducible refine ixJ k rfl ?_ ?_;focus omega)|refine exI hx ?_|refine stp ?_|with_reducible apply Z01<;>intro h)
   conv=>whnf
   clear hx
   have hlen:=hg.fe k hlt hlf
   have hsl:=hg.s4 _ (Y0f hlt)
   have h2k:=hb2 (k+1)
   have h2e:t2 g (k+1)=t2 g k++Z3I k 0 g.thr[k] g.frm[k]:=by
    unfold t2;rw[Ze0 _ _ _ hlt hlf,Y0p]
   have hnk:=hn2 k
   have okl:=(hg.ok.2.1.2 _ (Y0f hlt)).2
   have okf:=(hg.ok.2.2.1.2 _ (Y0f hlf)).2
   rw[h2e]at h2k
   generalize g.thr[k]=l at *
   generalize g.frm[k]=f at *
   generalize t2 g k=X0 at *
   have hbi:∀i,(X0++Z3I k 0 (l.take i) (f.take i)).length<=1000000000:=λi=>by
    have:=ZkE k l f i hlen.symm
    simp only[Y05]at h2k⊢;omega
   have hL:=λi (hi:i<l.length)=>Z0f (f:=evC) (k:=5) (λ_=>rfl) l i hi
   have hD:=λi (hi:i<f.length)=>Z0f (f:=idC) (k:=2) (λ_=>rfl) f i hi
   have hxf':tk 1 (List.drop (k*1) XF)=some [.rs f.length 2 (Z07 idC f)]:=hxf
   clear hxf hb2 hn2 hT hF
   generalize Z07 evC l=XL at *
   generalize Z07 idC f=XD at *
   have h0:X0=X0++Z3I k 0 (l.take 0) (f.take 0):=by simp[Z3I]
   refine⟨Nat,(λi=>i<=l.length),(λi=>[(1,.ptr 0 0),(3,.ptr 1 0),(4,.func (.func 43) [] [.ptr 1 0]),(7,.int .i64 (k:Nat)),(42,.rs g.thr.length 1 XT),(43,.int .i64 g.thr.length),(44,.int .i64 (k:Nat)),(49,.rs l.length 5 XL),(50,.int .i64 l.length),(51,.int .i64 (i:Nat))]),(λi=>HB [AV.rs g.ini.length 1 XI,.rs g.thr.length 1 XT,.rs g.frm.length 1 XF,.rs g.ord.length 1 XO] (X0++Z3I k 0 (l.take i) (f.take i))),(λi=>l.length-i),⟨0,Y0h _,?_⟩,?_⟩
   · refine Zfa rfl h0 hgr rfl rfl rfl rfl rfl ?_
     refine Y01 (Y02 rfl rfl) (Y01 (Y02 rfl rfl) (Y01 (Y0a trivial ⟨Y02 rfl rfl,trivial⟩) ?_))
     exact wks
   clear h0
   intro i hi
   dsimp only at hi⊢
   by_cases hit:i<l.length
   · have e2:decide ((i:Int)<(l.length:Int))=true:=by simpa using hit
     have hif:i<f.length:=by omega
     have hx1:=hL i hit
     have hx2:=hD i hif
     have h1:X0++Z3I k 0 (l.take (i+1)) (f.take (i+1))=X0++Z3I k 0 (l.take i) (f.take i)++Z0s [Z0k,idT ⟨(k:Int)+1,i⟩,evT l[i],Z2f l[i] f[i]]:=by rw[Zgz k l f i hit hif,Y0p]
     have h2:=hbi (i+1)
     have hne:X0++Z3I k 0 (l.take i) (f.take i)≠[]:=by simp[hnk]
     rw[h1]at h2
     have oke:=okl _ (Y0f hit)
     have okd:=okf _ (Y0f hif)
     generalize l[i]=e at *
     generalize f[i]=d at *
     have okid:okD ⟨(k:Int)+1,i⟩:=⟨⟨by show -9223372036854775808<=(k:Int)+1;omega,by show (k:Int)+1<=_;omega⟩,⟨by show -9223372036854775808<=(i:Int);omega,by show (i:Int)<=_;omega⟩⟩
     have q1:=r3 ⟨(k:Int)+1,i⟩ okid
     have q2:=r3 d okd
     have q3:=r4 e oke
     have q4:=r5 e
     have w1:IntKind.i64.wrap ((k:Int)+1)=(k:Int)+1:=Z1i (by omega) (by omega)
     have l1:=Z8X _ okid
     have l2:=Z8X d okd
     have l3:=ZgB e oke
     have l4:=Zar e d okd
     have G1:[Z0k,idT ⟨(k:Int)+1,i⟩,evT e,Z2f e d].length<=1000/\Z2u [Z0k,idT ⟨(k:Int)+1,i⟩,evT e,Z2f e d]<=1048576:=⟨by simp,by simp only[Z2u,Z0k,Y03,Y0c];omega⟩
     have G2:ZmE (some [Z31,idT d]):=⟨by simp,by simp only[Z2u,Z31,Y03,Y0c];omega⟩
     have q5:=λH args h=>qw (some [Z31,idT d]) G2 H args h
     have h4:(X0++Z3I k 0 (l.take i) (f.take i)++Z0s [Z0k,idT ⟨(k:Int)+1,i⟩,evT e,Z2f e d]).length<=1073741824:=by omega
     unfold Z2f at G1 h4 h1
     simp only[evC,idC]at hx1 hx2 q1 q2 q3 q4
     generalize X0++Z3I k 0 (l.take i) (f.take i)=X at *
     generalize idT ⟨(k:Int)+1,i⟩=W1 at *
     generalize idT d=W2 at *
     generalize evT e=W3 at *
     clear h2 hbi hL hD l1 l2 l3 l4 okid okl okf qw
     simp only[Zl5,Zlq]at q5
     generalize Z0v [Z31,W2]=W4 at *
     cases hr:e.rd with
     |false =>
      rw[hr]at q4 G1 h4 h1
      simp only[Bool.false_eq_true,if_false]at G1 h4 h1
      simp only[HB]
      repeat' ((conv=>whnf);first|(with_reducible refine exW w1 ?_)|with_reducible refine exI (q1 _) ?_|with_reducible refine exI (q2 _) ?_|with_reducible refine exI (q3 _) ?_|with_reducible refine exI (q4 _) ?_|(with_reducible refine ixJ i rfl ?_ ?_;focus omega)|(with_reducible refine ixJ k rfl ?_ ?_;focus omega)|refine exI hx1 ?_|refine exI hx2 ?_|(refine ZeG (ZdZ p1 [Z0k,W1,W3,[]] G1 hne h4 rfl rfl rfl rfl rfl rfl) ?_)|refine stp ?_|with_reducible apply Z01<;>intro h)
      conv=>whnf
      refine⟨i+1,hit,by show l.length-(i+1)<l.length-i;omega,?_⟩
      (try dsimp only)
      refine Zfa rfl h1.symm hgr rfl rfl rfl rfl rfl ?_
      refine Y01 (Y02 rfl rfl) (Y01 (Y02 rfl rfl) (Y01 (Y0a trivial ⟨Y02 rfl rfl,trivial⟩) ?_))
      exact wks
     |true =>
      rw[hr]at q4 G1 h4 h1
      simp only[if_true]at G1 h4 h1
      simp only[HB]
      repeat' ((conv=>whnf);first|(with_reducible refine exW w1 ?_)|with_reducible refine exI (q1 _) ?_|with_reducible refine exI (q2 _) ?_|with_reducible refine exI (q3 _) ?_|with_reducible refine exI (q4 _) ?_|(with_reducible refine ixJ i rfl ?_ ?_;focus omega)|(with_reducible refine ixJ k rfl ?_ ?_;focus omega)|refine exI hx1 ?_|refine exI hx2 ?_|(refine exI hxf' ?_)|refine exI (q5 _ _ rfl) ?_|(refine ZeG (ZdZ p1 [Z0k,W1,W3,W4] G1 hne h4 rfl rfl rfl rfl rfl rfl) ?_)|refine stp ?_|with_reducible apply Z01<;>intro h)
      conv=>whnf
      refine⟨i+1,hit,by show l.length-(i+1)<l.length-i;omega,?_⟩
      (try dsimp only)
      refine Zfa rfl h1.symm hgr rfl rfl rfl rfl rfl ?_
      refine Y01 (Y02 rfl rfl) (Y01 (Y02 rfl rfl) (Y01 (Y0a trivial ⟨Y02 rfl rfl,trivial⟩) ?_))
      exact wks
   have ei:i=l.length:=by omega
   subst ei
   have e2:decide (((l.length:Nat):Int)<(l.length:Int))=false:=decide_eq_false (by omega)
   have h5:X0++Z3I k 0 (l.take l.length) (f.take l.length)=t2 g (k+1):=by
    rw[h2e,Y0k,<- hlen,Y0k]
   simp only[HB]
   repeat' ((conv=>whnf);first|refine stp ?_|with_reducible apply Z01<;>intro h)
   conv=>whnf
   refine⟨k+1,hlt,by show g.thr.length-(k+1)<g.thr.length-k;omega,?_⟩
   (try dsimp only)
   refine Zfa rfl h5 hgr rfl rfl rfl rfl rfl ?_
   refine Y01 (Y02 rfl rfl) (Y01 (Y02 rfl rfl) (Y01 (Y0a trivial ⟨Y02 rfl rfl,trivial⟩) ?_))
   exact wks
 have ek:k=g.thr.length:=by omega
 subst ek
 have e1:decide (((g.thr.length:Nat):Int)<(g.thr.length:Int))=false:=decide_eq_false (by omega)
 simp only[HB]
 repeat' ((conv=>whnf);first|refine stp ?_|with_reducible apply Z01<;>intro h)
 conv=>whnf
 clear hT hF hb2
 have hb3:∀k,(t3 g k).length+4<=1000000000:=λk=>by
  have:=ZhV g.ord k
  rw[htx]at hfew
  unfold t3 at hfew
  rw[Y0k]at hfew
  have e4:(Z0s [Z16]).length=4:=by decide
  unfold t3
  simp only[Y05,e4]at hfew⊢;omega
 have h0:t2 g g.thr.length=t3 g 0:=by unfold t3;simp[Z1Y]
 have hn3:∀k,t3 g k≠[]:=λk=>by unfold t3;simp[hn2]
 refine⟨Nat,(λk=>k<=g.ord.length),(λk=>[(1,.ptr 0 0),(3,.ptr 1 0),(4,.func (.func 43) [] [.ptr 1 0]),(83,.rs g.ord.length 1 XO),(84,.int .i64 g.ord.length),(85,.int .i64 (k:Nat))]),(λk=>HB [AV.rs g.ini.length 1 XI,.rs g.thr.length 1 XT,.rs g.frm.length 1 XF,.rs g.ord.length 1 XO] (t3 g k)),(λk=>g.ord.length-k),⟨0,Y0h _,?_⟩,?_⟩
 · refine Zfa rfl h0 hgr rfl rfl rfl rfl rfl ?_
   refine Y01 (Y02 rfl rfl) (Y01 (Y02 rfl rfl) (Y01 (Y0a trivial ⟨Y02 rfl rfl,trivial⟩) ?_))
   exact wks
 clear h0 hn2
 intro k hk
 dsimp only at hk⊢
 by_cases hlt:k<g.ord.length
 · have e1:decide ((k:Int)<(g.ord.length:Int))=true:=by simpa using hlt
   have hx:=hR k hlt
   simp only[HB]
   repeat' ((conv=>whnf);first|(with_reducible refine ixJ k rfl ?_ ?_;focus omega)|refine exI hx ?_|refine stp ?_|with_reducible apply Z01<;>intro h)
   conv=>whnf
   clear hx
   have h2:=hb3 (k+1)
   have hnk:=hn3 k
   have hol:=hg.or1 _ (Y0f hlt)
   have okf:=(hg.ok.2.2.2.2 _ (Y0f hlt)).2
   have h1:t3 g (k+1)=t3 g k++Z0s [Z0d,Z0g k,Z0v (g.ord[k].map idT)]:=by
    unfold t3;rw[Zef _ _ hlt,Y0p]
   rw[h1]at h2
   generalize t3 g k=X at *
   generalize g.ord[k]=f at *
   have hD:=λi (hi:i<f.length)=>Z0f (f:=idC) (k:=2) (λ_=>rfl) f i hi
   have hll:=Z8W f okf
   clear hb3 hn3 hR
   generalize Z07 idC f=XD at *
   refine⟨Nat,(λi=>i<=f.length),(λi=>[(1,.ptr 0 0),(3,.ptr 1 0),(4,.func (.func 43) [] [.ptr 1 0]),(12,.int .i64 (k:Nat)),(14,idV ((f.take i).map idT)),(83,.rs g.ord.length 1 XO),(84,.int .i64 g.ord.length),(85,.int .i64 (k:Nat)),(90,.rs f.length 2 XD),(91,.int .i64 f.length),(92,.int .i64 (i:Nat))]),(λi=>HB [AV.rs g.ini.length 1 XI,.rs g.thr.length 1 XT,.rs g.frm.length 1 XF,.rs g.ord.length 1 XO] X++idB ((f.take i).map idT)),(λi=>f.length-i),⟨0,Y0h _,?_⟩,?_⟩
   · refine Zfa rfl rfl hgr rfl rfl rfl rfl rfl ?_
     refine Y01 (Y02 rfl rfl) (Y01 (Y02 rfl rfl) (Y01 (Y0a trivial ⟨Y02 rfl rfl,trivial⟩) ?_))
     exact wks
   intro i hi
   dsimp only at hi⊢
   by_cases hit:i<f.length
   · have e2:decide ((i:Int)<(f.length:Int))=true:=by simpa using hit
     have hx:=hD i hit
     have okd:=okf _ (Y0f hit)
     have hs:(f.take (i+1)).map idT=(f.take i).map idT++[idT f[i]]:=by rw[List.take_succ_eq_append_getElem hit,List.map_append];rfl
     have hTl:((f.take i).map idT).length<=100:=by rw[Y0q,List.length_take];omega
     generalize f[i]=d at *
     have q1:=r3 d okd
     generalize idT d=W at *
     generalize (f.take i).map idT=T at *
     simp only[idC]at hx q1
     clear okf hD h1 h2 hll qw r1 r2 r3 r4 r5 hfew htx hokI
     cases T with
     |nil =>
      simp only[HB,idV,idB,Y0i]
      repeat' ((conv=>whnf);first|with_reducible refine exI (q1 _) ?_|(with_reducible refine ixJ i rfl ?_ ?_;focus omega)|refine exI hx ?_|refine stp ?_|with_reducible apply Z01<;>intro h)
      conv=>whnf
      refine⟨i+1,hit,by show f.length-(i+1)<f.length-i;omega,?_⟩
      (try dsimp only)
      rw[hs]
      simp only[Y0b,idV,idB]
      refine ZnA (d:=5) (fd:=5) rfl hgr (Z1U [W]) rfl rfl rfl rfl rfl rfl rfl ?_
      refine Y01 (Y02 rfl rfl) (Y01 (Y02 rfl rfl) (Y01 (Y0a trivial ⟨Y02 rfl rfl,trivial⟩) ?_))
      refine stw ?_
      refine Y01 (Y0j rfl rfl (by simp) (Y04 _) (by simp) rfl) ?_
      exact wks
     |cons c r =>
      have hm:(c::r).map AV.str++[AV.str W]=(c::(r++[W])).map AV.str:=by simp
      simp only[HB,idV,idB,Y08,Y0b]
      repeat' ((conv=>whnf);first|with_reducible refine exI (q1 _) ?_|(with_reducible refine ixJ i rfl ?_ ?_;focus omega)|refine exI hx ?_|refine exI (ZdJ bTs (x:=.slice 5 0 1 1 1) (n:=1) (xs:=[.str W]) (cs:=(c::r).map AV.str) (len:=r.length+1) rfl rfl rfl (by simp) rfl (by decide) (by simp only[Y03]at hTl;omega)) ?_|refine stp ?_|with_reducible apply Z01<;>intro h)
      conv=>whnf
      refine⟨i+1,hit,by show f.length-(i+1)<f.length-i;omega,?_⟩
      (try dsimp only)
      rw[hs]
      simp only[Y08,idV,idB]
      refine ZnA (d:=6) (fd:=3) (cs:=(c::(r++[W])).map AV.str) rfl hgr (Z1U (c::(r++[W]))) rfl rfl rfl (by rw[<- hm];rfl) rfl rfl rfl ?_
      refine Y01 (Y02 rfl rfl) (Y01 (Y02 rfl rfl) (Y01 (Y0a trivial ⟨Y02 rfl rfl,trivial⟩) ?_))
      refine stw ?_
      refine Y01 (Y0j rfl rfl (by simp) (Y04 _) (by simp) rfl) ?_
      exact wks
   have ei:i=f.length:=by omega
   subst ei
   have e2:decide (((f.length:Nat):Int)<(f.length:Int))=false:=decide_eq_false (by omega)
   have rk:rgI (k:Int):=⟨by omega,by omega⟩
   have q1:=r1 k rk
   have nk:=Z0N rk
   rw[Y0k]
   have hfl2:(f.map idT).length<=100:=by rw[Y0q];exact hol
   generalize f.map idT=T at *
   have GT:ZmE (some T):=⟨by omega,by omega⟩
   have l5:=Z2k T
   have G1:[Z0d,Z0g k,Z0v T].length<=1000/\Z2u [Z0d,Z0g k,Z0v T]<=1048576:=⟨by simp,by simp only[Z2u,Z0d,Y03,Y0c];omega⟩
   have h4:(X++Z0s [Z0d,Z0g k,Z0v T]).length<=1073741824:=by omega
   generalize Z0g (k:Int)=NK at *
   clear h2 hll hD okf
   cases T with
   |nil =>
    have q5:=λH args h=>qw none trivial H args h
    simp only[Zl5,Zlq]at q5
    have e0:Z0v []=[]:=rfl
    rw[e0]at G1 h4 h1
    clear qw
    simp only[HB,idV,idB,Y0i]
    repeat' ((conv=>whnf);first|with_reducible refine exI (q1 _) ?_|refine exI (q5 _ _ rfl) ?_|(refine ZeG (ZdZ p1 [Z0d,NK,[]] G1 hnk h4 rfl rfl rfl rfl rfl rfl) ?_)|refine stp ?_|with_reducible apply Z01<;>intro h)
    conv=>whnf
    refine⟨k+1,hlt,by show g.ord.length-(k+1)<g.ord.length-k;omega,?_⟩
    (try dsimp only)
    refine Zfa rfl h1.symm hgr rfl rfl rfl rfl rfl ?_
    refine Y01 (Y02 rfl rfl) (Y01 (Y02 rfl rfl) (Y01 (Y0a trivial ⟨Y02 rfl rfl,trivial⟩) ?_))
    exact wks
   |cons c r =>
    have q5:=λH args h=>qw (some (c::r)) GT H args h
    simp only[Zl5,Zlq]at q5
    generalize Z0v (c::r)=WT at *
    clear qw
    simp only[HB,idV,idB,Y08,Y0b]
    have hz:∀(H:Z00) f,H[3]? = some ⟨true,f,0,.cells ((c::r).map AV.str) 9⟩->Z1n (frz H 30) [.slice 3 0 (r.length+1) (r.length+1) 1]=some [.rs (c::r).length 1 ((c::r).map AV.str)]:=λH f h=>by
     have h1:frz H 30 (.slice 3 0 (r.length+1) (r.length+1) 1)=some (.rs (c::r).length 1 ((c::r).map AV.str)):=Z3U (n:=28) (b:=3) h (by simp) (Z6y (c::r))
     simp only[Z1n,h1]
    repeat' ((conv=>whnf);first|with_reducible refine exI (q1 _) ?_|refine exI (q5 _ _ (hz _ 3 rfl)) ?_|(refine ZeG (ZdZ p1 [Z0d,NK,WT] G1 hnk h4 rfl rfl rfl rfl rfl rfl) ?_)|refine stp ?_|with_reducible apply Z01<;>intro h)
    conv=>whnf
    refine⟨k+1,hlt,by show g.ord.length-(k+1)<g.ord.length-k;omega,?_⟩
    (try dsimp only)
    refine Zfa rfl h1.symm hgr rfl rfl rfl rfl rfl ?_
    refine Y01 (Y02 rfl rfl) (Y01 (Y02 rfl rfl) (Y01 (Y0a trivial ⟨Y02 rfl rfl,trivial⟩) ?_))
    exact wks
 have ek:k=g.ord.length:=by omega
 subst ek
 have e1:decide (((g.ord.length:Nat):Int)<(g.ord.length:Int))=false:=decide_eq_false (by omega)
 have h2:=hb3 g.ord.length
 have hne:=hn3 g.ord.length
 have G1:[Z16].length<=1000/\Z2u [Z16]<=1048576:=by decide
 generalize t3 g g.ord.length=X at *
 obtain⟨c,r,rfl⟩:∃c r,X=c::r:=by cases X with|nil=>exact absurd rfl hne|cons c r=>exact⟨c,r,rfl⟩
 have h4:(c::r++Z0s [Z16]).length<=1073741824:=by
  have e4:(Z0s [Z16]).length=4:=by decide
  rw[Y05,e4];omega
 have hne2:c::r++Z0s [Z16]≠[]:=by simp
 simp only[HB]
 repeat' ((conv=>whnf);first|(refine ZeG (ZdZ p1 [Z16] G1 hne h4 rfl rfl rfl rfl rfl rfl) ?_)|refine exI (ZiO (s:=c::r++Z0s [Z16]) rfl rfl rfl hne2 (by omega) rfl) ?_|refine exI (ZjC (s:=c::r++Z0s [Z16]) hne2 (by omega) rfl) ?_|refine stp ?_|with_reducible apply Z01<;>intro h)
 all_goals rfl
end
section
variable {gl:Z0w}
theorem ZlU {P : Program} {t e : TypeId} {z b : Nat} {u : AV} {H : Z00} (ht : P.underlying t = some (.slice e)) (hz : tsz P e = some z) (hb : (P.info? e).map (·.bytes) = some b) (hu : Z3C P e = some u) (hul : u.cells.length = z) (hz0 : z ≠ 0) (n : Nat)
  (h:n<=1099511627776) (h2:b*n<=140737488355328):Z1P P t (.int .i64 n) (.int .i64 n) H=some (.slice H.length 0 n n z,Z2V H (Z4w n u.cells) e):=by
 cases hi:P.info? e with
 |none=>rw[hi]at hb;cases hb
 |some i =>
  rw[hi]at hb
  simp only[Y0r,Option.some.injEq]at hb
  have h2':(b:Int)*(n:Int)<=140737488355328:=by
   have:((b*n:Nat):Int)<=((140737488355328:Nat):Int):=Int.ofNat_le.2 h2
   simpa using this
  simp only[Z1P,Za5,ht,hz,hi,hb,hu]
  rw[if_pos ⟨by omega,by omega,by omega,h2'⟩]
  try simp only[Int.toNat_natCast]
  by_cases hn:n=0
  ·subst hn;simp[Z4w,Z2V]
  · have h0:¬(n*z=0):=λe=>by rcases Nat.mul_eq_zero.1 e with e|e;exact hn e;exact hz0 e
    rw[if_neg h0,if_pos hul]
theorem ZmW:∀(a b c vs:List AV),b.length=vs.length->spl (a++(b++c)) a.length vs=some (a++(vs++c))
 |[],[],c,[],_=>by cases c<;>rfl
 |[],x::b,c,v::vs,h=>by
  have:=ZmW [] b c vs (by simpa using h)
  simp only[Y0b,Y0c]at this
  simp only[Y0b,Y0c,Y08,spl,this]
 |x::a,b,c,vs,h=>by
  have:=ZmW a b c vs h
  simp only[Y08,Y03,spl,this]
 |[],[],c,_::_,h=>by simp at h
 |[],_::_,c,[],h=>by simp at h
def Ziu:AV->Bool
 | .bool _=>true
 | .int _ _=>true
 | .str _=>true
 | .rs _ _ _=>true
 |_=>false
theorem Zir{H:Z00}{n:Nat}:∀{u:AV},Ziu u=true->frz H (n+1) u=some u
 | .bool _,_=>rfl
 | .int _ _,_=>rfl
 | .str _,_=>rfl
 | .rs _ _ _,_=>rfl
theorem Zaq{H:Z00}{n:Nat}:∀{cs:List AV},cs.all Ziu=true->Z1n (frz H (n+1)) cs=some cs
 |[],_=>rfl
 |c::cs,h=>by
  simp only[List.all_cons,Y0l]at h
  simp only[Z1n,Zir h.1,Zaq h.2]
theorem Z8j{H:Z00}{n b f sh len cap z:Nat}{cs:List AV}{ty:TypeId}(hH:H[b]? = some ⟨true,f,sh,.cells cs ty⟩)(hc:cs.length=len*z)(hl:cs.all Ziu=true):frz H (n+2) (.slice b 0 len cap z)=some (.rs len z cs):=by
 cases len with
 |zero =>
  have:cs=[]:=List.eq_nil_of_length_eq_zero (by omega)
  subst this;rfl
 |succ m =>
  have h2:Z1n (frz H (n+1)) cs=some cs:=Zaq hl
  unfold frz
  simp only[hH,List.drop_zero,Z7V hc]
  rw[h2]
end
section
theorem Z9O:∀{s:List UInt8},Z1b 32 s=none->Z0C s=[s]
 |[],_=>rfl
 |b::s,h=>by
  simp only[Z1b]at h
  by_cases hb:b=32
  ·rw[if_pos hb]at h;cases h
  · rw[if_neg hb]at h
    have:Z1b 32 s=none:=by
     cases hc:Z1b 32 s with
     |none=>rfl
     |some p=>rw[hc]at h;cases h
    simp only[Z0C]
    rw[if_neg hb,Z9O this]
theorem Z9N:∀{s x y:List UInt8},Z1b 32 s=some (x,y)->Z0C s=x::Z0C y
 |[],x,y,h=>by cases h
 |b::s,x,y,h=>by
  simp only[Z1b]at h
  by_cases hb:b=32
  · rw[if_pos hb]at h
    simp only[Option.some.injEq,Prod.mk.injEq]at h
    obtain⟨rfl,rfl⟩:=h
    simp only[Z0C]
    rw[if_pos hb]
  · rw[if_neg hb]at h
    cases hc:Z1b 32 s with
    |none=>rw[hc]at h;cases h
    |some p =>
     obtain⟨u,v⟩:=p
     rw[hc]at h
     simp only[Option.some.injEq,Prod.mk.injEq]at h
     obtain⟨rfl,rfl⟩:=h
     simp only[Z0C]
     rw[if_neg hb,Z9N hc]
theorem ZaJ{s:List UInt8}:(Z1b 32 s=none ↔ s.count 32=0):=by
 induction s with
 |nil=>simp[Z1b]
 |cons b s ih =>
  simp only[Z1b,List.count_cons]
  by_cases hb:b=32
  ·rw[if_pos hb];simp[hb]
  · rw[if_neg hb]
    have:(b==32)=false:=by simpa using hb
    rw[this]
    simp only[Bool.false_eq_true,if_false,Nat.add_zero]
    rw[<- ih]
    cases Z1b 32 s<;>simp
theorem ZeC{s x y:List UInt8}(h:Z1b 32 s=some (x,y)):s.count 32=y.count 32+1:=by
 induction s generalizing x y with
 |nil=>cases h
 |cons b s ih =>
  simp only[Z1b]at h
  by_cases hb:b=32
  · rw[if_pos hb]at h
    simp only[Option.some.injEq,Prod.mk.injEq]at h
    obtain⟨rfl,rfl⟩:=h
    subst hb;simp
  · rw[if_neg hb]at h
    cases hc:Z1b 32 s with
    |none=>rw[hc]at h;cases h
    |some p =>
     obtain⟨u,v⟩:=p
     rw[hc]at h
     simp only[Option.some.injEq,Prod.mk.injEq]at h
     obtain⟨rfl,rfl⟩:=h
     have:(b==32)=false:=by simpa using hb
     rw[List.count_cons,this,ih hc];simp
theorem ZlW(n:Nat)(h:n<=1048577)(H:Z00):Z1P Y00 85 (.int .i64 n) (.int .i64 n) H=some (.slice H.length 0 n n 1,Z2V H (Z4w n [.str []]) 9):=by
 have hz:tsz Y00 9=some 1:=by kernel_rfl
 have hb:(Y00.info? 9).map (·.bytes)=some 16:=by kernel_rfl
 have hu:Z3C Y00 9=some (.str []):=by kernel_rfl
 exact ZlU Tryz.underlying85 hz hb hu rfl (by decide) n (by omega) (by omega)
theorem Z9T(n:Nat):refsL (Z4w n [AV.str []]) []=[]:=by
 induction n with
 |zero=>rfl
 |succ n ih=>exact ih
theorem Z51:∀(l:List (List UInt8))(m:List AV),refsL m []=[]->refsL (l.map AV.str++m) []=[]
 |[],m,h=>h
 |c::r,m,h=>Z51 r m h
structure SpS where
 i:Nat
 rest:List UInt8
 done:List (List UInt8)
section
variable {gl:Z0w}
theorem Zgd(s:List UInt8)(hs:s.length<=1048576):ValOK Y00 gl 66 [.str s,.str [32],.int .i64 0,.int .i64 (-1)] (.rs (Z0C s).length 1 ((Z0C s).map AV.str)):=by
 obtain⟨O,hO,p1,-⟩:=fams (P:=Y00) (gl:=gl) [
  { I:=List UInt8,f:=54,G:=λs=>s.length<=1099511627776,A:=λs=>[.str s,.str [32]],R:=λs=>.int .i64 (ixB 32 s 0),body:=(by kernel_rfl),inj:=(λi j _ _ h=>by simp only[List.cons.injEq,AV.str.injEq,and_true]at h;rw[h]),ok:=(λs hs=>⟨rfl,ZiU 32 (.inr (.inl rfl)) s hs⟩) }] rfl
 have q1:∀s,s.length<=1099511627776->∀H,Z02 Y00 O H 54 [.str s,.str [32]]=some (.int .i64 (ixB 32 s 0),H):=p1
 clear p1
 obtain⟨N,hN⟩:∃N,N=s.count 32:=⟨_,rfl⟩
 have hNl:N<=s.length:=by rw[hN];exact List.count_le_length
 have hm:=ZlW (N+1) (by omega)
 refine Z0u (λg=>Y09 g 54) 3 follows Z0a hO Tryz.func66 rfl ?_
 have hcnt:((s.count 32:Nat):Int)=(N:Int):=by rw[hN]
 have h2:([32]:List UInt8)[0]? = some 32:=rfl
 have hw:IntKind.i64.wrap (((List.count (UInt8.ofNat (UInt8.toNat 32)) s:Nat):Int)+1)=((N+1:Nat):Int):=by
  have:List.count (UInt8.ofNat (UInt8.toNat 32)) s=N:=hN.symm
  rw[this,Z1i (by omega) (by omega)];omega
 have hn:(if ((s.length+1:Nat):Int)<IntKind.i64.wrap (((List.count (UInt8.ofNat (UInt8.toNat 32)) s:Nat):Int)+1) then ((s.length+1:Nat):Int) else IntKind.i64.wrap (((List.count (UInt8.ofNat (UInt8.toNat 32)) s:Nat):Int)+1))=((N+1:Nat):Int):=by
  rw[hw]
  split<;>omega
 have w1:IntKind.i64.wrap (((N+1:Nat):Int)-1)=(N:Int):=by rw[Z1i (by omega) (by omega)];omega
 repeat' ((conv=>whnf);first|(with_reducible refine ixS 0 rfl h2 ?_)|(with_reducible refine exW w1 ?_)|(rw[hn];refine exI (hm _) ?_)|refine stp ?_|with_reducible apply Z01<;>intro h)
 conv=>whnf
 refine⟨SpS,(λt=>Z0C s=t.done++Z0C t.rest/\t.done.length=t.i/\t.i+t.rest.count 32=N/\t.rest.length<=s.length),(λt=>[(0,.str t.rest),(1,.str [32]),(2,.int .i64 0),(3,.int .i64 (N:Nat)),(8,.nslice),(9,.slice 0 0 (N+1) (N+1) 1),(10,.int .i64 (t.i:Nat))]),(λt=>[⟨true,0,0,.cells (t.done.map AV.str++Z4w (N+1-t.i) [.str []]) 9⟩]),(λt=>N-t.i),⟨⟨0,s,[]⟩,⟨rfl,rfl,by show 0+s.count 32=N;omega,Y04 _⟩,?_⟩,?_⟩
 · refine FgL.mk [0] rfl ?_ ⟨⟨rfl,rfl,rfl,rfl,Y06 (rest:=[]) (by simp) (Z9T _)⟩,trivial⟩ rfl
   iterate 5 refine stw ?_
   refine Y01 (Y0j rfl rfl rfl (Y04 _) (Y04 _) rfl) ?_
   exact wks
 clear hw hn w1 hcnt hm hN
 rintro⟨i,rest,done⟩ ⟨hsp,hdl,hcn,hrl⟩
 dsimp only at hsp hdl hcn hrl⊢
 have qr:=q1 rest (by omega)
 have hsplit:∀v,spl (done.map AV.str++Z4w (N+1-i) [.str []]) (0+i*1) [v]=some (done.map AV.str++([v]++Z4w (N-i) [.str []])):=λv=>by
  have e1:N+1-i=(N-i)+1:=by omega
  have e2:0+i*1=(done.map AV.str).length:=by rw[Y0q];omega
  rw[e1,e2]
  exact ZmW (done.map AV.str) [.str []] (Z4w (N-i) [.str []]) [v] rfl
 by_cases hlt:i<N
 · have e1:decide ((i:Int)<(N:Int))=true:=by simpa using hlt
   cases hc:Z1b 32 rest with
   |none=>rw[ZaJ]at hc;omega
   |some p =>
    obtain⟨x,y⟩:=p
    obtain⟨h1,h3⟩:=Z4j 0 hc
    have h4:=Z9N hc
    have h5:=ZeC hc
    rw[h1,Nat.zero_add]at qr
    have hlen:rest.length=x.length+(y.length+1):=by rw[h3];simp
    have ht:rest.take (x.length+0)=x:=by rw[h3];simp
    have hd:rest.drop (x.length+1)=y:=by rw[h3];simp
    repeat' ((conv=>whnf);first|(with_reducible refine ixJ i rfl ?_ ?_;focus omega)|with_reducible refine exI (qr _) ?_|refine exI (hsplit _) ?_|refine stp ?_|with_reducible apply Z01<;>intro h)
    conv=>whnf
    rw[ht,hd]
    have h6:done.map AV.str++([AV.str x]++Z4w (N-i) [.str []])=(done++[x]).map AV.str++Z4w (N+1-(i+1)) [.str []]:=by
     rw[show N+1-(i+1)=N-i by omega];simp
    rw[h6]
    refine⟨⟨i+1,y,done++[x]⟩,⟨by show Z0C s=(done++[x])++Z0C y;rw[hsp,h4];simp,by show (done++[x]).length=i+1;rw[Y05,hdl];rfl,by show i+1+y.count 32=N;omega,by show y.length<=s.length;omega⟩,by show N-(i+1)<N-i;omega,?_⟩
    refine FgL.mk [0] rfl ?_ ⟨⟨rfl,rfl,rfl,rfl,Y06 (rest:=[]) (by simp) (Z51 _ _ (Z9T _))⟩,trivial⟩ rfl
    iterate 5 refine stw ?_
    refine Y01 (Y0j rfl rfl rfl (Y04 _) (Y04 _) rfl) ?_
    exact wks
 have ei:i=N:=by omega
 subst ei
 have e1:decide ((i:Int)<(i:Int))=false:=decide_eq_false (by omega)
 have hc:Z1b 32 rest=none:=ZaJ.2 (by omega)
 have h4:=Z9O hc
 repeat' ((conv=>whnf);first|(with_reducible refine ixJ i rfl ?_ ?_;focus omega)|with_reducible refine exI (qr _) ?_|refine exI (hsplit _) ?_|refine stp ?_|with_reducible apply Z01<;>intro h)
 conv=>whnf
 have h6:done.map AV.str++([AV.str rest]++Z4w (i-i) [.str []])=(Z0C s).map AV.str:=by
  rw[hsp,h4,Nat.sub_self];simp[Z4w]
 have h7:(Z0C s).length=i+1:=by rw[hsp,h4,Y05,hdl];rfl
 rw[h6,h7]
 exact⟨_,Z3U (n:=28) (b:=0) (len:=i+1) (cap:=i+1) (z:=1) rfl (by rw[Y0q,h7];omega) (Z6y _),rfl⟩
theorem Z48(s:List UInt8)(hs:s.length<=1048576):ValOK Y00 gl 51 [.str s,.str [32]] (.rs (Z0C s).length 1 ((Z0C s).map AV.str)):=by
 obtain⟨O,hO,p1,-⟩:=fams (P:=Y00) (gl:=gl) [
  { I:=Unit,f:=66,G:=λ_=>True,A:=λ_=>[.str s,.str [32],.int .i64 0,.int .i64 (-1)],R:=λ_=>.rs (Z0C s).length 1 ((Z0C s).map AV.str),body:=(by kernel_rfl),inj:=(λ_ _ _ _ _=>rfl),ok:=(λ_ _=>⟨rfl,Zgd s hs⟩) }] rfl
 have q1:∀H,Z02 Y00 O H 66 [.str s,.str [32],.int .i64 0,.int .i64 (-1)]=some (.rs (Z0C s).length 1 ((Z0C s).map AV.str),H):=p1 () trivial
 clear p1
 generalize Z0C s=W at *
 generalize W.map AV.str=C at *
 refine Z09 follows Z0a hO Tryz.func51 rfl ?_
 repeat' ((conv=>whnf);first|with_reducible refine exI (q1 _) ?_|refine stp ?_|with_reducible apply Z01<;>intro h)
 all_goals rfl
end
end
section
def Zak(b:UInt8):Prop:=48<=b.toNat/\b.toNat<=57
theorem Z5H(d:Nat)(h:d<10):(UInt8.ofNat (48+d)).toNat=48+d:=by
 rw[UInt8.toNat_ofNat'];omega
theorem Zc3:∀(m:Nat)(b:UInt8),b∈Z4s m->Zak b:=by
 intro m
 induction m using Nat.strongRecOn with
 |_ m ih =>
  intro b hb
  rw[Z4s]at hb
  by_cases h:m<10
  · rw[if_pos h]at hb
    simp only[List.mem_singleton]at hb
    subst hb
    unfold Zak;rw[Z5H m h];omega
  · rw[if_neg h,List.mem_append]at hb
    rcases hb with hb|hb
    ·exact ih (m / 10) (by omega) b hb
    · simp only[List.mem_singleton]at hb
      subst hb
      unfold Zak;rw[Z5H (m % 10) (by omega)];omega
theorem ZiY:∀(a b:List UInt8)(acc u:Nat),Lib.parseUint10 acc a = .ok u->Lib.parseUint10 acc (a++b)=Lib.parseUint10 u b
 |[],b,acc,u,h=>by simp only[Lib.parseUint10]at h;injection h with h;subst h;rfl
 |c::a,b,acc,u,h=>by
  simp only[Lib.parseUint10,Y08]at h⊢
  split at h
  · rename_i h1
    rw[if_pos h1]
    split at h
    ·cases h
    · rename_i h2
      rw[if_neg h2]
      split at h
      ·cases h
      · rename_i h3
        rw[if_neg h3]
        exact ZiY a b _ u h
  ·cases h
theorem ZlF:∀m:Nat,m<18446744073709551616->Lib.parseUint10 0 (Z4s m) = .ok m:=by
 intro m
 induction m using Nat.strongRecOn with
 |_ m ih =>
  intro hm
  rw[Z4s]
  by_cases h:m<10
  · rw[if_pos h]
    simp only[Lib.parseUint10]
    rw[Z5H m h,if_pos (by omega),if_neg (by omega),if_neg (by omega)]
    congr 1;omega
  · rw[if_neg h,ZiY _ _ 0 (m / 10) (ih (m / 10) (by omega) (by omega))]
    simp only[Lib.parseUint10]
    rw[Z5H (m % 10) (by omega),if_pos (by omega),if_neg (by omega),if_neg (by omega)]
    congr 1;omega
theorem ZcS(m:Nat)(h:m<18446744073709551616):Lib.parseMag (Z4s m) = .ok m:=by
 unfold Lib.parseMag
 rw[if_neg (Zc1 m),ZlF m h]
theorem ZfR:∀(a b:List UInt8)(acc u:Nat),Zeo acc a=some u->Zeo acc (a++b)=Zeo u b
 |[],b,acc,u,h=>by simp only[Zeo,Option.some.injEq]at h;subst h;rfl
 |c::a,b,acc,u,h=>by
  simp only[Zeo,Y08]at h⊢
  split at h
  · rename_i h1
    rw[if_pos h1]
    exact ZfR a b _ u h
  ·cases h
theorem ZfQ:∀m:Nat,Zeo 0 (Z4s m)=some m:=by
 intro m
 induction m using Nat.strongRecOn with
 |_ m ih =>
  rw[Z4s]
  by_cases h:m<10
  · rw[if_pos h]
    simp only[Zeo]
    rw[Z5H m h,if_pos (by omega)]
    congr 1;omega
  · rw[if_neg h,ZfR _ _ 0 (m / 10) (ih (m / 10) (by omega))]
    simp only[Zeo]
    rw[Z5H (m % 10) (by omega),if_pos (by omega)]
    congr 1;omega
theorem Z7w(m:Nat):∃c r,Z4s m=c::r/\Zak c:=by
 cases h:Z4s m with
 |nil=>exact absurd h (Zc1 m)
 |cons c r=>exact⟨c,r,rfl,Zc3 m c (by rw[h];simp)⟩
theorem ZjS:2 ^ (64-1)=9223372036854775808:=by decide
theorem ZfB(n:Int)(h:rgI n):Lib.parseIntB 64 (Z0g n) = .ok n:=by
 have h1:=h.1
 have h2:=h.2
 unfold Z0g
 by_cases hn:n<0
 · rw[if_pos hn]
   simp only[Lib.parseIntB]
   rw[if_pos (Or.inr (by decide)),Lib.parseUintB_64,ZcS _ (by omega)]
   simp only
   rw[if_neg (by intro⟨a,_⟩;exact a (by decide)),if_neg (by rw[ZjS];omega),if_pos (by decide)]
   congr 1;omega
 · rw[if_neg hn]
   obtain⟨c,r,e,hc⟩:=Z7w n.toNat
   have hp:=ZcS n.toNat (by omega)
   unfold Zak at hc
   rw[e]at hp⊢
   simp only[Lib.parseIntB]
   rw[if_neg (by omega),Lib.parseUintB_64,hp]
   simp only
   rw[if_neg (by rw[ZjS];omega),if_neg (by omega),if_neg (by omega)]
   congr 1;omega
theorem Zh7(n:Int)(h:rgI n):Lib.atoiAll (Z0g n) = .ok n:=by
 have h1:=h.1
 have h2:=h.2
 unfold Z0g
 by_cases hn:n<0
 · rw[if_pos hn]
   simp only[Lib.atoiAll]
   rw[if_pos (Or.inr (by decide)),ZcS _ (by omega)]
   simp only
   rw[if_neg (by intro⟨a,_⟩;exact a (by decide)),if_neg (by omega),if_pos (by decide)]
   congr 1;omega
 · rw[if_neg hn]
   obtain⟨c,r,e,hc⟩:=Z7w n.toNat
   have hp:=ZcS n.toNat (by omega)
   unfold Zak at hc
   rw[e]at hp⊢
   simp only[Lib.atoiAll]
   rw[if_neg (by omega),hp]
   simp only
   rw[if_neg (by omega),if_neg (by omega),if_neg (by omega)]
   congr 1;omega
theorem Z9Y{l:List UInt8}{v:Int}(h:Lib.parseIntB 64 l = .ok v):rgI v:=by
 cases l with
 |nil=>simp[Lib.parseIntB]at h
 |cons c r =>
  simp only[Lib.parseIntB,ZjS]at h
  split at h
  ·cases h
  ·cases h
  · rename_i u hu
    split at h
    ·cases h
    · rename_i h1
      split at h
      ·cases h
      · rename_i h2
        injection h with h
        subst h
        unfold rgI
        split<;>omega
theorem ZaT{l:List UInt8}{v:Int}(h:Lib.atoiAll l = .ok v):rgI v:=Lib.atoiAll_bounds h
def Zk3(s:List UInt8):Int:=match s with
 |45::r=>match Zeo 0 r with|some m=>-(m:Int)|none=>0
 |_=>match Zeo 0 s with|some m=>(m:Int)|none=>0
theorem ZfG(s:List UInt8):Zbh s=if Z0g (Zk3 s)=s /\ -9223372036854775808<=Zk3 s/\Zk3 s<=9223372036854775807 then some (Zk3 s) else none:=rfl
theorem Zi0(n:Int):Zk3 (Z0g n)=n:=by
 unfold Z0g
 by_cases hn:n<0
 · rw[if_pos hn]
   simp only[Zk3,ZfQ];omega
 · rw[if_neg hn]
   obtain⟨c,r,e,hc⟩:=Z7w n.toNat
   have hm:=ZfQ n.toNat
   unfold Zak at hc
   rw[e]at hm⊢
   unfold Zk3
   split
   · rename_i r' h'
     simp only[List.cons.injEq]at h'
     rw[h'.1]at hc
     exact absurd hc.1 (by decide)
   ·rw[hm];show ((n.toNat:Nat):Int)=n;omega
theorem Z5c(n:Int)(h:rgI n):Zbh (Z0g n)=some n:=by
 rw[ZfG,Zi0,if_pos ⟨rfl,h.1,h.2⟩]
theorem Z3Q{s:List UInt8}{n:Int}(h:Zbh s=some n):Z0g n=s/\rgI n:=by
 rw[ZfG]at h
 split at h
 · rename_i h1
   injection h with h
   rw[<- h]
   exact⟨h1.1,h1.2.1,h1.2.2⟩
 ·cases h
theorem Zk4{s:List UInt8}{v:Int}(h:Lib.parseIntB 64 s = .ok v):Zbh s=if (Z0g v==s)=true then some v else none:=by
 by_cases e:Z0g v=s
 ·rw[if_pos (by simpa using e),<- e,Z5c v (Z9Y h)]
 · rw[if_neg (by simpa using e)]
   cases hr:Zbh s with
   |none=>rfl
   |some n =>
    obtain⟨h1,h2⟩:=Z3Q hr
    rw[<- h1,ZfB n h2]at h
    injection h with h
    subst h
    exact absurd h1 e
theorem ZfF{s:List UInt8}(h:∀v,Lib.parseIntB 64 s ≠ .ok v):Zbh s=none:=by
 cases hr:Zbh s with
 |none=>rfl
 |some n =>
  obtain⟨h1,h2⟩:=Z3Q hr
  rw[<- h1]at h
  exact absurd (ZfB n h2) (h n)
theorem Zk5{s:List UInt8}{v:Int}(h:Lib.atoiAll s = .ok v):Zbh s=if (Z0g v==s)=true then some v else none:=by
 by_cases e:Z0g v=s
 ·rw[if_pos (by simpa using e),<- e,Z5c v (ZaT h)]
 · rw[if_neg (by simpa using e)]
   cases hr:Zbh s with
   |none=>rfl
   |some n =>
    obtain⟨h1,h2⟩:=Z3Q hr
    rw[<- h1,Zh7 n h2]at h
    injection h with h
    subst h
    exact absurd h1 e
theorem Zk6{s:List UInt8}(h:∀v,Lib.atoiAll s ≠ .ok v):Zbh s=none:=by
 cases hr:Zbh s with
 |none=>rfl
 |some n =>
  obtain⟨h1,h2⟩:=Z3Q hr
  rw[<- h1]at h
  exact absurd (Zh7 n h2) (h n)
end
end Go.Proofs.YtpcpdlfhcahjgaaGreatDoor.lex
section
namespace Go.Proofs.YtpcpdlfhcahjgaaGreatDoor.shelf
open Go.Shelf
def Zey:Go.Shelf.Ren:=⟨fun|172=>86|244=>102|245=>103|247=>104|279=>113|280=>114|281=>115|282=>116|287=>117|316=>121|171=>45|205=>122|321=>123|322=>124|243=>61|246=>82|283=>95|284=>96|285=>97|286=>98|129=>108|317=>107|318=>109|319=>110|320=>111|337=>119|338=>120|n=>n,fun|9=>9|3=>3|75=>52|76=>53|4=>4|5=>5|167=>146|37=>38|0=>0|85=>121|2=>2|168=>147|53=>132|175=>150|46=>117|210=>160|127=>73|145=>167|143=>165|21=>21|171=>131|173=>135|212=>142|51=>128|20=>20|213=>143|232=>163|233=>164|80=>55|n=>n,fun|15=>4|16=>5|17=>1|18=>6|19=>7|n=>n⟩
theorem ftAtoi:Go.Proofs.LaysC.n172 Y00 Zey:={
 mixed:=by kernel_rfl
 f129:=Tryz.func108.trans (congrArg some (by kernel_rfl))
 f171:=Tryz.func45.trans (congrArg some (by kernel_rfl))
 f172:=Tryz.func86.trans (congrArg some (by kernel_rfl))
 f205:=Tryz.func122.trans (congrArg some (by kernel_rfl))
 f243:=Tryz.func61.trans (congrArg some (by kernel_rfl))
 f244:=Tryz.func102.trans (congrArg some (by kernel_rfl))
 f245:=Tryz.func103.trans (congrArg some (by kernel_rfl))
 f246:=Tryz.func82.trans (congrArg some (by kernel_rfl))
 f247:=Tryz.func104.trans (congrArg some (by kernel_rfl))
 f279:=Tryz.func113.trans (congrArg some (by kernel_rfl))
 f280:=Tryz.func114.trans (congrArg some (by kernel_rfl))
 f281:=Tryz.func115.trans (congrArg some (by kernel_rfl))
 f282:=Tryz.func116.trans (congrArg some (by kernel_rfl))
 f283:=Tryz.func95.trans (congrArg some (by kernel_rfl))
 f284:=Tryz.func96.trans (congrArg some (by kernel_rfl))
 f285:=Tryz.func97.trans (congrArg some (by kernel_rfl))
 f286:=Tryz.func98.trans (congrArg some (by kernel_rfl))
 f287:=Tryz.func117.trans (congrArg some (by kernel_rfl))
 f316:=Tryz.func121.trans (congrArg some (by kernel_rfl))
 f317:=Tryz.func107.trans (congrArg some (by kernel_rfl))
 f318:=Tryz.func109.trans (congrArg some (by kernel_rfl))
 f319:=Tryz.func110.trans (congrArg some (by kernel_rfl))
 f320:=Tryz.func111.trans (congrArg some (by kernel_rfl))
 f321:=Tryz.func123.trans (congrArg some (by kernel_rfl))
 f322:=Tryz.func124.trans (congrArg some (by kernel_rfl))
 f337:=Tryz.func119.trans (congrArg some (by kernel_rfl))
 f338:=Tryz.func120.trans (congrArg some (by kernel_rfl))
 t0:=Tryz.underlying0
 a0:=Tryz.isAgg0
 z0:=Tryz.sizeOf0
 v0:=Tryz.zeroValue0
 t2:=Tryz.underlying2
 a2:=Tryz.isAgg2
 z2:=Tryz.sizeOf2
 v2:=Tryz.zeroValue2
 t3:=Tryz.underlying3
 a3:=Tryz.isAgg3
 z3:=Tryz.sizeOf3
 v3:=Tryz.zeroValue3
 t4:=Tryz.underlying4
 a4:=Tryz.isAgg4
 z4:=Tryz.sizeOf4
 v4:=Tryz.zeroValue4
 t5:=Tryz.underlying5
 a5:=Tryz.isAgg5
 z5:=Tryz.sizeOf5
 v5:=Tryz.zeroValue5
 t9:=Tryz.underlying9
 a9:=Tryz.isAgg9
 z9:=Tryz.sizeOf9
 v9:=Tryz.zeroValue9
 t20:=Tryz.underlying20
 a20:=Tryz.isAgg20
 z20:=Tryz.sizeOf20
 v20:=Tryz.zeroValue20
 t21:=Tryz.underlying21
 a21:=Tryz.isAgg21
 z21:=Tryz.sizeOf21
 v21:=Tryz.zeroValue21
 t37:=Tryz.underlying38
 a37:=Tryz.isAgg38
 z37:=Tryz.sizeOf38
 v37:=Tryz.zeroValue38
 t46:=Tryz.underlying117
 a46:=Tryz.isAgg117
 z46:=Tryz.sizeOf117
 v46:=Tryz.zeroValue117
 t51:=Tryz.underlying128
 a51:=Tryz.isAgg128
 z51:=Tryz.sizeOf128
 v51:=Tryz.zeroValue128
 t53:=Tryz.underlying132
 a53:=Tryz.isAgg132
 z53:=Tryz.sizeOf132
 v53:=Tryz.zeroValue132
 t75:=Tryz.underlying52
 a75:=Tryz.isAgg52
 z75:=Tryz.sizeOf52
 v75:=Tryz.zeroValue52
 t76:=Tryz.underlying53
 a76:=Tryz.isAgg53
 z76:=Tryz.sizeOf53
 v76:=Tryz.zeroValue53
 t85:=Tryz.underlying121
 a85:=Tryz.isAgg121
 z85:=Tryz.sizeOf121
 v85:=Tryz.zeroValue121
 t127:=Tryz.underlying73
 a127:=Tryz.isAgg73
 z127:=Tryz.sizeOf73
 v127:=Tryz.zeroValue73
 t143:=Tryz.underlying165
 a143:=Tryz.isAgg165
 z143:=Tryz.sizeOf165
 v143:=Tryz.zeroValue165
 t145:=Tryz.underlying167
 a145:=Tryz.isAgg167
 z145:=Tryz.sizeOf167
 v145:=Tryz.zeroValue167
 t167:=Tryz.underlying146
 a167:=Tryz.isAgg146
 z167:=Tryz.sizeOf146
 v167:=Tryz.zeroValue146
 t168:=Tryz.underlying147
 a168:=Tryz.isAgg147
 z168:=Tryz.sizeOf147
 v168:=Tryz.zeroValue147
 t171:=Tryz.underlying131
 a171:=Tryz.isAgg131
 z171:=Tryz.sizeOf131
 v171:=Tryz.zeroValue131
 t173:=Tryz.underlying135
 a173:=Tryz.isAgg135
 z173:=Tryz.sizeOf135
 v173:=Tryz.zeroValue135
 t175:=Tryz.underlying150
 a175:=Tryz.isAgg150
 z175:=Tryz.sizeOf150
 v175:=Tryz.zeroValue150
 t210:=Tryz.underlying160
 a210:=Tryz.isAgg160
 z210:=Tryz.sizeOf160
 v210:=Tryz.zeroValue160
 t212:=Tryz.underlying142
 a212:=Tryz.isAgg142
 z212:=Tryz.sizeOf142
 v212:=Tryz.zeroValue142
 t213:=Tryz.underlying143
 a213:=Tryz.isAgg143
 z213:=Tryz.sizeOf143
 t232:=Tryz.underlying163
 a232:=Tryz.isAgg163
 z232:=Tryz.sizeOf163
 v232:=Tryz.zeroValue163
 t233:=Tryz.underlying164
 a233:=Tryz.isAgg164
 z233:=Tryz.sizeOf164
 v233:=Tryz.zeroValue164
 g15:=by kernel_rfl
 g16:=by kernel_rfl
 g17:=by kernel_rfl
 g18:=by kernel_rfl
 g19:=by kernel_rfl
 t80:=Tryz.underlying55
 a80:=Tryz.isAgg55
 z80:=Tryz.sizeOf55
 v80:=Tryz.zeroValue55
 i0:=by kernel_rfl
 i2:=by kernel_rfl
 i3:=by kernel_rfl
 i4:=by kernel_rfl
 i5:=by kernel_rfl
 i9:=by kernel_rfl
 i20:=by kernel_rfl
 i21:=by kernel_rfl
 i37:=by kernel_rfl
 i46:=by kernel_rfl
 i51:=by kernel_rfl
 i53:=by kernel_rfl
 i75:=by kernel_rfl
 i76:=by kernel_rfl
 i80:=by kernel_rfl
 i85:=by kernel_rfl
 i127:=by kernel_rfl
 i143:=by kernel_rfl
 i145:=by kernel_rfl
 i167:=by kernel_rfl
 i168:=by kernel_rfl
 i171:=by kernel_rfl
 i173:=by kernel_rfl
 i175:=by kernel_rfl
 i210:=by kernel_rfl
 i212:=by kernel_rfl
 i232:=by kernel_rfl
 i233:=by kernel_rfl
 m15:=by kernel_rfl
 m16:=by kernel_rfl
 m17:=by kernel_rfl
 m18:=by kernel_rfl
 m19:=by kernel_rfl
 c0:=by kernel_rfl
 c2:=by kernel_rfl
 c3:=by kernel_rfl
 c4:=by kernel_rfl
 c5:=by kernel_rfl
 c9:=by kernel_rfl
 c20:=by kernel_rfl
 c21:=by kernel_rfl
 c37:=by kernel_rfl
 c46:=by kernel_rfl
 c51:=by kernel_rfl
 c53:=by kernel_rfl
 c75:=by kernel_rfl
 c76:=by kernel_rfl
 c80:=by kernel_rfl
 c85:=by kernel_rfl
 c127:=by kernel_rfl
 c143:=by kernel_rfl
 c145:=by kernel_rfl
 c167:=by kernel_rfl
 c168:=by kernel_rfl
 c171:=by kernel_rfl
 c173:=by kernel_rfl
 c175:=by kernel_rfl
 c210:=by kernel_rfl
 c212:=by kernel_rfl
 c213:=by kernel_rfl
 c232:=by kernel_rfl
 c233:=by kernel_rfl }
def ZbO:Go.Shelf.Ren:=⟨fun|174=>87|247=>104|245=>103|287=>117|279=>113|280=>114|281=>115|282=>116|321=>123|322=>124|316=>121|171=>45|205=>122|243=>61|246=>82|283=>95|284=>96|285=>97|286=>98|129=>108|317=>107|318=>109|319=>110|320=>111|337=>119|338=>120|n=>n,fun|9=>9|3=>3|2=>2|75=>52|85=>121|4=>4|167=>146|5=>5|53=>132|175=>150|46=>117|168=>147|37=>38|0=>0|210=>160|21=>21|127=>73|145=>167|143=>165|171=>131|173=>135|212=>142|51=>128|20=>20|213=>143|232=>163|233=>164|80=>55|n=>n,fun|15=>4|16=>5|17=>1|18=>6|19=>7|n=>n⟩
theorem ftParse:Go.Proofs.LaysC.n174 Y00 ZbO:={
 mixed:=by kernel_rfl
 f129:=Tryz.func108.trans (congrArg some (by kernel_rfl))
 f171:=Tryz.func45.trans (congrArg some (by kernel_rfl))
 f174:=Tryz.func87.trans (congrArg some (by kernel_rfl))
 f205:=Tryz.func122.trans (congrArg some (by kernel_rfl))
 f243:=Tryz.func61.trans (congrArg some (by kernel_rfl))
 f245:=Tryz.func103.trans (congrArg some (by kernel_rfl))
 f246:=Tryz.func82.trans (congrArg some (by kernel_rfl))
 f247:=Tryz.func104.trans (congrArg some (by kernel_rfl))
 f279:=Tryz.func113.trans (congrArg some (by kernel_rfl))
 f280:=Tryz.func114.trans (congrArg some (by kernel_rfl))
 f281:=Tryz.func115.trans (congrArg some (by kernel_rfl))
 f282:=Tryz.func116.trans (congrArg some (by kernel_rfl))
 f283:=Tryz.func95.trans (congrArg some (by kernel_rfl))
 f284:=Tryz.func96.trans (congrArg some (by kernel_rfl))
 f285:=Tryz.func97.trans (congrArg some (by kernel_rfl))
 f286:=Tryz.func98.trans (congrArg some (by kernel_rfl))
 f287:=Tryz.func117.trans (congrArg some (by kernel_rfl))
 f316:=Tryz.func121.trans (congrArg some (by kernel_rfl))
 f317:=Tryz.func107.trans (congrArg some (by kernel_rfl))
 f318:=Tryz.func109.trans (congrArg some (by kernel_rfl))
 f319:=Tryz.func110.trans (congrArg some (by kernel_rfl))
 f320:=Tryz.func111.trans (congrArg some (by kernel_rfl))
 f321:=Tryz.func123.trans (congrArg some (by kernel_rfl))
 f322:=Tryz.func124.trans (congrArg some (by kernel_rfl))
 f337:=Tryz.func119.trans (congrArg some (by kernel_rfl))
 f338:=Tryz.func120.trans (congrArg some (by kernel_rfl))
 t0:=Tryz.underlying0
 a0:=Tryz.isAgg0
 z0:=Tryz.sizeOf0
 v0:=Tryz.zeroValue0
 t2:=Tryz.underlying2
 a2:=Tryz.isAgg2
 z2:=Tryz.sizeOf2
 v2:=Tryz.zeroValue2
 t3:=Tryz.underlying3
 a3:=Tryz.isAgg3
 z3:=Tryz.sizeOf3
 v3:=Tryz.zeroValue3
 t4:=Tryz.underlying4
 a4:=Tryz.isAgg4
 z4:=Tryz.sizeOf4
 v4:=Tryz.zeroValue4
 t5:=Tryz.underlying5
 a5:=Tryz.isAgg5
 z5:=Tryz.sizeOf5
 v5:=Tryz.zeroValue5
 t9:=Tryz.underlying9
 a9:=Tryz.isAgg9
 z9:=Tryz.sizeOf9
 v9:=Tryz.zeroValue9
 t20:=Tryz.underlying20
 a20:=Tryz.isAgg20
 z20:=Tryz.sizeOf20
 v20:=Tryz.zeroValue20
 t21:=Tryz.underlying21
 a21:=Tryz.isAgg21
 z21:=Tryz.sizeOf21
 v21:=Tryz.zeroValue21
 t37:=Tryz.underlying38
 a37:=Tryz.isAgg38
 z37:=Tryz.sizeOf38
 v37:=Tryz.zeroValue38
 t46:=Tryz.underlying117
 a46:=Tryz.isAgg117
 z46:=Tryz.sizeOf117
 v46:=Tryz.zeroValue117
 t51:=Tryz.underlying128
 a51:=Tryz.isAgg128
 z51:=Tryz.sizeOf128
 v51:=Tryz.zeroValue128
 t53:=Tryz.underlying132
 a53:=Tryz.isAgg132
 z53:=Tryz.sizeOf132
 v53:=Tryz.zeroValue132
 t75:=Tryz.underlying52
 a75:=Tryz.isAgg52
 z75:=Tryz.sizeOf52
 v75:=Tryz.zeroValue52
 t85:=Tryz.underlying121
 a85:=Tryz.isAgg121
 z85:=Tryz.sizeOf121
 v85:=Tryz.zeroValue121
 t127:=Tryz.underlying73
 a127:=Tryz.isAgg73
 z127:=Tryz.sizeOf73
 v127:=Tryz.zeroValue73
 t143:=Tryz.underlying165
 a143:=Tryz.isAgg165
 z143:=Tryz.sizeOf165
 v143:=Tryz.zeroValue165
 t145:=Tryz.underlying167
 a145:=Tryz.isAgg167
 z145:=Tryz.sizeOf167
 v145:=Tryz.zeroValue167
 t167:=Tryz.underlying146
 a167:=Tryz.isAgg146
 z167:=Tryz.sizeOf146
 v167:=Tryz.zeroValue146
 t168:=Tryz.underlying147
 a168:=Tryz.isAgg147
 z168:=Tryz.sizeOf147
 v168:=Tryz.zeroValue147
 t171:=Tryz.underlying131
 a171:=Tryz.isAgg131
 z171:=Tryz.sizeOf131
 v171:=Tryz.zeroValue131
 t173:=Tryz.underlying135
 a173:=Tryz.isAgg135
 z173:=Tryz.sizeOf135
 v173:=Tryz.zeroValue135
 t175:=Tryz.underlying150
 a175:=Tryz.isAgg150
 z175:=Tryz.sizeOf150
 v175:=Tryz.zeroValue150
 t210:=Tryz.underlying160
 a210:=Tryz.isAgg160
 z210:=Tryz.sizeOf160
 v210:=Tryz.zeroValue160
 t212:=Tryz.underlying142
 a212:=Tryz.isAgg142
 z212:=Tryz.sizeOf142
 v212:=Tryz.zeroValue142
 t213:=Tryz.underlying143
 a213:=Tryz.isAgg143
 z213:=Tryz.sizeOf143
 t232:=Tryz.underlying163
 a232:=Tryz.isAgg163
 z232:=Tryz.sizeOf163
 v232:=Tryz.zeroValue163
 t233:=Tryz.underlying164
 a233:=Tryz.isAgg164
 z233:=Tryz.sizeOf164
 v233:=Tryz.zeroValue164
 g15:=by kernel_rfl
 g16:=by kernel_rfl
 g17:=by kernel_rfl
 g18:=by kernel_rfl
 g19:=by kernel_rfl
 t80:=Tryz.underlying55
 a80:=Tryz.isAgg55
 z80:=Tryz.sizeOf55
 v80:=Tryz.zeroValue55
 i0:=by kernel_rfl
 i2:=by kernel_rfl
 i3:=by kernel_rfl
 i4:=by kernel_rfl
 i5:=by kernel_rfl
 i9:=by kernel_rfl
 i20:=by kernel_rfl
 i21:=by kernel_rfl
 i37:=by kernel_rfl
 i46:=by kernel_rfl
 i51:=by kernel_rfl
 i53:=by kernel_rfl
 i75:=by kernel_rfl
 i80:=by kernel_rfl
 i85:=by kernel_rfl
 i127:=by kernel_rfl
 i143:=by kernel_rfl
 i145:=by kernel_rfl
 i167:=by kernel_rfl
 i168:=by kernel_rfl
 i171:=by kernel_rfl
 i173:=by kernel_rfl
 i175:=by kernel_rfl
 i210:=by kernel_rfl
 i212:=by kernel_rfl
 i232:=by kernel_rfl
 i233:=by kernel_rfl
 m15:=by kernel_rfl
 m16:=by kernel_rfl
 m17:=by kernel_rfl
 m18:=by kernel_rfl
 m19:=by kernel_rfl
 c0:=by kernel_rfl
 c2:=by kernel_rfl
 c3:=by kernel_rfl
 c4:=by kernel_rfl
 c5:=by kernel_rfl
 c9:=by kernel_rfl
 c20:=by kernel_rfl
 c21:=by kernel_rfl
 c37:=by kernel_rfl
 c46:=by kernel_rfl
 c51:=by kernel_rfl
 c53:=by kernel_rfl
 c75:=by kernel_rfl
 c80:=by kernel_rfl
 c85:=by kernel_rfl
 c127:=by kernel_rfl
 c143:=by kernel_rfl
 c145:=by kernel_rfl
 c167:=by kernel_rfl
 c168:=by kernel_rfl
 c171:=by kernel_rfl
 c173:=by kernel_rfl
 c175:=by kernel_rfl
 c210:=by kernel_rfl
 c212:=by kernel_rfl
 c213:=by kernel_rfl
 c232:=by kernel_rfl
 c233:=by kernel_rfl }
end Go.Proofs.YtpcpdlfhcahjgaaGreatDoor.shelf
end
namespace Go.Proofs.YtpcpdlfhcahjgaaGreatDoor.lex
open Go.Abs Go.RowKit
section
def Zli:AV:=.iface 147 (.rp [])
def Zdt(sat:Int):Lib.NumEnd Int->AV
 | .ok v=>.tuple [.int .i64 v,.niface]
 | .range=>.tuple [.int .i64 sat,Zli]
 |_=>.tuple [.int .i64 0,Zli]
theorem Z33{W W':World}(h:Below W.heap.size W W'):Ext W W':=⟨λc hc=>h.block c hc,h.size,h.os,h.tape,h.output⟩
theorem Zdh{sn:Z0l}{W:World}{g:Nat}{t:TypeId}{cs:List AV}(hg:GlOK runLives.gl sn)(hR:R sn noI [] W)(h:runLives.gl g=some [.iface t (.rp cs)]):∃ev,W.cell? ⟨g,0,none⟩=some ev/\(ev = .nilIface\/∃te pe,ev = .iface te pe):=by
 have h1:=hg g _ h
 simp only[MR]at h1
 obtain⟨⟨v,h2,h3⟩,_⟩:=h1
 obtain⟨x,rfl,_⟩:=h3.iface
 exact⟨_,(hR.snap _ _ h2).2.1,.inr ⟨_,_,rfl⟩⟩
theorem Zds{sn:Z0l}{n:Int}{T:TypeId}{N:Nat}:VR sn noI (.tuple [.int .i64 n,.iface T (.rp [])]) (.tuple #[.int .i64 n,.iface T (.pointer (some ⟨N,0,none⟩))]):=by
 simp[VR,LR,MR]
 exact⟨_,_,⟨rfl,rfl⟩,rfl,_,rfl,_,rfl,_,_,rfl⟩
theorem ZkV(s:List UInt8)(hs:s.length<=1099511627776):ValOK Y00 runLives.gl 86 [.str s] (Zdt (Lib.atoiSat s) (Lib.atoiAll s)):=by
 intro sn W cargs hg hR ha
 simp only[LR]at ha
 obtain⟨v1,_,rfl,h1,rfl⟩:=ha
 obtain⟨ba,rfl,rfl⟩:=h1.str
 have hsz:ba.size<=1099511627776:=hs
 cases h:Lib.atoiAll ba.data.toList with
 |ok v =>
  refine (Any.strconv_Atoi_ok shelf.ftAtoi ba (by omega) v h W).mono ?_
  rintro e W' ⟨rfl,hW⟩
  refine⟨_,rfl,?_,by simp[Zdt,VR,LR]⟩
  rcases hW with rfl|⟨t,rfl⟩
  ·exact Z5p _
  ·exact Z33 (Lib.bytesWorld_below _ _ _)
 |range =>
  obtain⟨ev,e1,e2⟩:=Zdh (g:=5) hg hR rfl
  refine (Any.strconv_Atoi_range shelf.ftAtoi ba (by omega) h ev W e1 e2).mono ?_
  rintro e W' ⟨N,rfl,_,_,hB⟩
  exact⟨_,rfl,Z33 hB,Zds⟩
 |_ =>
  obtain⟨ev,e1,e2⟩:=Zdh (g:=4) hg hR rfl
  refine (Any.strconv_Atoi_syntax shelf.ftAtoi ba (by omega) h ev W e1 e2).mono ?_
  rintro e W' ⟨N,rfl,_,_,hB⟩
  exact⟨_,rfl,Z33 hB,Zds⟩
theorem ZjT(s:List UInt8)(hs:s.length<=1099511627776):ValOK Y00 runLives.gl 87 [.str s,.int .i64 10,.int .i64 64] (Zdt (Lib.intSat 64 s) (Lib.parseIntB 64 s)):=by
 intro sn W cargs hg hR ha
 simp only[LR]at ha
 obtain⟨v1,_,rfl,h1,v2,_,rfl,h2,v3,_,rfl,h3,rfl⟩:=ha
 obtain⟨ba,rfl,rfl⟩:=h1.str
 cases h2.int
 cases h3.int
 have hsz:ba.size<=1099511627776:=hs
 cases h:Lib.parseIntB 64 ba.data.toList with
 |ok v =>
  refine (Any.strconv_ParseInt_10_at64_ok shelf.ftParse ba (by omega) v h W).mono ?_
  rintro e W' ⟨rfl,hW⟩
  refine⟨_,rfl,?_,by simp[Zdt,VR,LR]⟩
  rcases hW with rfl|⟨t,rfl⟩
  ·exact Z5p _
  ·exact Z33 (Lib.bytesWorld_below _ _ _)
 |range =>
  obtain⟨ev,e1,e2⟩:=Zdh (g:=5) hg hR rfl
  refine (Any.strconv_ParseInt_10_at64_range shelf.ftParse ba (by omega) h ev W e1 e2).mono ?_
  rintro e W' ⟨N,rfl,_,_,hB⟩
  exact⟨_,rfl,Z33 hB,Zds⟩
 |_ =>
  obtain⟨ev,e1,e2⟩:=Zdh (g:=4) hg hR rfl
  refine (Any.strconv_ParseInt_10_at64_syntax shelf.ftParse ba (by omega) h ev W e1 e2).mono ?_
  rintro e W' ⟨N,rfl,_,_,hB⟩
  exact⟨_,rfl,Z33 hB,Zds⟩
end
end Go.Proofs.YtpcpdlfhcahjgaaGreatDoor.lex
section
namespace Go.Abs
open Go.RowKit
def Zgq(k:Nat):Z00->Bool
 |[]=>true
 |o::H=>Z0h k (Z6m o.body [])&&Zgq k H
theorem Zas{k:Nat}:∀{H:Z00}{b:Nat}{o:AObj},Zgq k H=true->H[b]? = some o->Z0h k (Z6m o.body [])=true
 |[],b,o,h,e=>by simp at e
 |x::H,0,o,h,e=>by simp only[Zgq,Y0l]at h;simp at e;subst e;exact h.1
 |x::H,b+1,o,h,e=>by simp only[Zgq,Y0l]at h;exact Zas h.2 (by simpa using e)
def Z1s(fs:List Nat):Z00->Bool
 |[]=>true
 |o::H=>!mem o.fam fs&&Z1s fs H
theorem Z8a{fs:List Nat}:∀{X:Z00}{b:Nat}{o:AObj},Z1s fs X=true->X[b]? = some o->o.fam ∉ fs
 |[],b,o,h,e=>by simp at e
 |x::X,0,o,h,e=>by
  simp only[Z1s,Y0l,Bool.not_eq_true']at h
  simp at e;subst e
  intro hm;rw[Z0W.2 hm]at h;cases h.1
 |x::X,b+1,o,h,e=>by simp only[Z1s,Y0l]at h;exact Z8a h.2 (by simpa using e)
theorem Zk8{P:Program}{gl:Z0w}{f:Nat}{args:List AV}{H H':Z00}{r:AV}(hM:Z3F P gl f args H r H')(X:Z00)(hl:H'.length=H.length)(ha:Z0h H.length (refsL args [])=true)(hb:Zgq H.length H=true)(hX:Z1s (H.map (·.fam)) X=true):Z3F P gl f args (H++X) r (H'++X):=by
 intro sn ι W cargs hg hR hargs
 let ι0:Z0i:=λb=>if b<H.length then ι b else none
 have i0:∀b,b<H.length -> ι0 b = ι b:=λb h=>if_pos h
 have i0':∀b p,ι0 b=some p->b<H.length /\ ι b=some p:=λb p h=>by
  have h:(if b<H.length then ι b else none)=some p:=h
  split at h
  ·exact⟨by assumption,h⟩
  ·cases h
 have gH:∀(b:Nat)(o:AObj),H[b]? = some o->(H++X)[b]? = some o:=λb o h=>by
  rw[Y0g (Y0e.1 h).1];exact h
 have hfam:∀(b c:Nat)(o x:AObj)(p q:Place),H[b]? = some o->(H++X)[c]? = some x->o.alive=true->x.alive=true->H.length<=c -> ι b=some p -> ι c=some q->p.blk=q.blk->False:=by
  intro b c o x p q hb hc ha ha' hk hp hq e
  have hf:=(hR.sep b c o x p q (gH b o hb) hc ha ha' hp hq e).1
  rw[Y0m hk]at hc
  exact Z8a hX hc (by rw[<- hf];exact List.mem_map.2 ⟨o,Y0o hb,rfl⟩)
 have hR0:R sn ι0 H W:=by
  refine⟨λb=>⟨λhb=>?_,λ⟨p,hp⟩=>(i0' b p hp).1⟩,λb p hp=>hR.blk b p (i0' b p hp).2,λb o p ho hal hp=>?_,λb b' o o' p p' ho ho' ha ha' hp hp' e=>hR.sep b b' o o' p p' (gH _ _ ho) (gH _ _ ho') ha ha' (i0' _ _ hp).2 (i0' _ _ hp').2 e,λa v hv=>?_,λb o p ho hp e=>hR.shz b o p (gH _ _ ho) (i0' _ _ hp).2 e⟩
  · obtain⟨p,hp⟩:=(hR.dom b).1 (by rw[Y05];omega)
    exact⟨p,by rw[i0 b hb];exact hp⟩
  · obtain⟨hbl,hp⟩:=i0' b p hp
    exact Z60 o.body p (λx hx q hq=>by rw[i0 x (Z1D (Zas hb ho) x hx)];exact hq) (hR.obj b o p (gH _ _ ho) hal hp)
  · obtain⟨h1,h2,h3⟩:=hR.snap a v hv
    exact⟨h1,h2,λb o p ho hal hp=>h3 b o p (gH _ _ ho) hal (i0' _ _ hp).2⟩
 have hl0:LR sn ι0 args cargs:=LR_refs args [] cargs (λb hb' p hp=>by rw[i0 b (Z1D ha b hb')];exact hp) hargs
 refine (hM sn ι0 W cargs hg hR0 hl0).mono ?_
 rintro e W1 ⟨v,sn1,ι1,rfl,hv,hs⟩
 let ι2:Z0i:=λb=>match ι1 b with|some p=>some p|none=>ι b
 have a1:∀b p,ι1 b=some p -> ι2 b=some p:=λb p h=>by show (match ι1 b with|some p=>some p|none=>ι b)=some p;rw[h]
 have a2:∀b,H.length<=b -> ι2 b = ι b:=λb h=>by
  show (match ι1 b with|some p=>some p|none=>ι b) = ι b
  cases hq : ι1 b with
  |none=>rfl
  |some p=>have:=(hs.rel.dom b).2 ⟨p,hq⟩;omega
 have a3:∀b p,ι b=some p -> ι2 b=some p:=λb p h=>by
  by_cases hb':b<H.length
  ·exact a1 b p (hs.le.ι b p (by rw[i0 b hb'];exact h))
  ·rw[a2 b (by omega)];exact h
 have a4:∀b p,b<H.length -> ι2 b=some p -> ι1 b=some p /\ ι b=some p:=λb p hb' h=>by
  obtain⟨q,hq⟩:=(hR.dom b).1 (by rw[Y05];omega)
  have h1:=hs.le.ι b q (by rw[i0 b hb'];exact hq)
  have h2:=a1 b q h1
  rw[h]at h2;cases h2
  exact⟨h1,hq⟩
 have hle:Le sn sn1 ι ι2:=⟨hs.le.sn,a3⟩
 have g1:∀(b:Nat)(o:AObj),(H'++X)[b]? = some o->(b<H.length/\H'[b]? = some o)\/(H.length<=b/\(H++X)[b]? = some o):=λb o h=>by
  by_cases hb':b<H.length
  ·rw[Y0g (by omega)]at h;exact .inl ⟨hb',h⟩
  · rw[Y0m (by omega),hl]at h
    exact .inr ⟨by omega,by rw[Y0m (by omega)];exact h⟩
 have old:∀(b:Nat)(o:AObj)(p:Place),(H'++X)[b]? = some o -> ι2 b=some p->∃o0,(H++X)[b]? = some o0 /\ ι b=some p/\o.fam=o0.fam/\o.sh=o0.sh/\(o.alive=true->o0.alive=true):=by
  intro b o p ho hp
  rcases g1 b o ho with ⟨h1,h2⟩|⟨h1,h2⟩
  · obtain⟨_,hq⟩:=a4 b p h1 hp
    obtain⟨o',k1,k2,k3,k4⟩:=hs.evo b _ (Y0d h1)
    rw[h2]at k1;cases k1
    exact⟨_,gH _ _ (Y0d h1),hq,k2,k3,k4⟩
  · rw[a2 b h1]at hp
    exact⟨o,h2,hp,rfl,rfl,id⟩
 have same:∀(b:Nat)(o:AObj)(p:Place),(H++X)[b]? = some o->o.alive=true->H.length<=b -> ι b=some p->W1.heap[p.blk]? = W.heap[p.blk]?:=λb o p ho ha hk hp =>
  hs.frame p.blk (hR.blk b p hp) λb' o' p' ho' ha' hp' e=>hfam b' b o' o p' p ho' ho ha' ha hk (i0' _ _ hp').2 hp e
 refine⟨v,sn1,ι2,rfl,Z0R ⟨λ_ _ h=>h,a1⟩ _ _ hv,⟨?_,hle,λb p hp=>?_,λc hc hno=>hs.frame c hc λb o p ho hal hp=>hno b o p (gH _ _ ho) hal (i0' _ _ hp).2,hs.size,hs.os,hs.tape,hs.output,λa v hv=>?_,λb o ho=>?_⟩⟩
 · refine⟨λb=>?_,λb p hp=>?_,λb o p ho hal hp=>?_,λb b' o o' p p' ho ho' ha ha' hp hp' e=>?_,λa u hu=>?_,λb o p ho hp e=>?_⟩
   · have:=hR.dom b
     rw[Y05,hl,<- Y05,this]
     constructor
     ·rintro⟨p,hp⟩;exact⟨p,a3 b p hp⟩
     · rintro⟨p,hp⟩
       by_cases hb':b<H.length
       ·exact⟨p,(a4 b p hb' hp).2⟩
       ·exact⟨p,by rw[<- a2 b (by omega)];exact hp⟩
   · by_cases hb':b<H.length
     ·exact hs.rel.blk b p (a4 b p hb' hp).1
     · rw[a2 b (by omega)]at hp
       have:=hR.blk b p hp;have:=hs.size;omega
   · rcases g1 b o ho with ⟨h1,h2⟩|⟨h1,h2⟩
     · obtain⟨hp1,_⟩:=a4 b p h1 hp
       exact Z0Q ⟨λ_ _ h=>h,a1⟩ rfl (hs.rel.obj b o p h2 hal hp1)
     · rw[a2 b h1]at hp
       exact Z0Q hle (same b o p h2 hal h1 hp) (hR.obj b o p h2 hal hp)
   · obtain⟨o0,k1,k2,k3,k4,k5⟩:=old b o p ho hp
     obtain⟨o0',k1',k2',k3',k4',k5'⟩:=old b' o' p' ho' hp'
     rw[k3,k3',k4,k4']
     exact hR.sep b b' o0 o0' p p' k1 k1' (k5 ha) (k5' ha') k2 k2' e
   · obtain⟨h1,h2,h3⟩:=hs.rel.snap a u hu
     refine⟨h1,h2,λb o p ho hal hp e=>?_⟩
     rcases g1 b o ho with ⟨k1,k2⟩|⟨k1,k2⟩
     ·exact h3 b o p k2 hal (a4 b p k1 hp).1 e
     · rw[a2 b k1]at hp
       rcases hs.sfresh a u hu with f1|f1|⟨b0,o0,p0,f1,f2,f3,f4⟩
       ·exact (hR.snap a u f1).2.2 b o p k2 hal hp e
       ·have:=hR.blk b p hp;omega
       ·exact hfam b0 b o0 o p0 p f1 k2 f2 hal k1 (i0' _ _ f3).2 hp (f4.trans e.symm)
   · obtain⟨o0,k1,k2,_,k4,_⟩:=old b o p ho hp
     exact hR.shz b o0 p k1 k2 (by rw[<- k4];exact e)
 · by_cases hb':b<H.length
   ·exact .inl (a4 b p hb' hp).2
   ·rw[a2 b (by omega)]at hp;exact .inl hp
 · rcases hs.sfresh a v hv with f1|f1|⟨b0,o0,p0,f1,f2,f3,f4⟩
   ·exact .inl f1
   ·exact .inr (.inl f1)
   ·exact .inr (.inr ⟨b0,o0,p0,gH _ _ f1,f2,(i0' _ _ f3).2,f4⟩)
 · by_cases hb':b<H.length
   · rw[Y0g hb']at ho
     obtain⟨o',k1,k2,k3,k4⟩:=hs.evo b o ho
     exact⟨o',by rw[Y0g (by omega)];exact k1,k2,k3,k4⟩
   · rw[Y0m (by omega)]at ho
     exact⟨o,by rw[Y0m (by omega),hl];exact ho,rfl,rfl,id⟩
end Go.Abs
end
section
namespace Go.Abs
open Go.RowKit
def Z5G(fs:List Nat)(H:Z00):Z00:=kil (λ_ o=>!mem o.fam fs) 0 H
def WkZ(fs:List Nat)(H:Z00)(m:List Nat)(u u2:AV):Prop:=Wk m u u2\/frz (Z5G fs H) 30 u=some u2
def BodyGeZ(fs:List Nat)(H:Z00)(m:List Nat):ABody->ABody->Prop
 | .cells cs ty,.cells cs2 ty2=>ty=ty2/\cs2.length<=cs.length/\∀(i:Nat)(c2:AV),cs2[i]? = some c2->∃c,cs[i]? = some c/\WkZ fs H m c c2
 |b,b2=>BodyGe m b b2
def HpGeZ(fs:List Nat)(H:Z00)(m:List Nat):List Nat->Z00->Nat->Prop
 |[],[],_=>True
 |j::l,o2::H2,i=>(onO H[j]? λo=>o.alive=true/\o2.alive=true/\o2.fam=i/\o2.sh=o.sh/\BodyGeZ fs H m o.body o2.body)/\HpGeZ fs H m l H2 (i+1)
 |_,_,_=>False
theorem HpGeZ.get{fs:List Nat}{H:Z00}{m:List Nat}:∀{l:List Nat}{H2:Z00}{i:Nat},HpGeZ fs H m l H2 i->H2.length=l.length/\∀b,b<l.length->∃j o o2,l[b]? = some j/\H[j]? = some o/\H2[b]? = some o2/\o.alive=true/\o2.alive=true/\o2.fam=i+b/\o2.sh=o.sh/\BodyGeZ fs H m o.body o2.body
 |[],[],i,h=>⟨rfl,λb hb=>by simp at hb⟩
 |j::l,o2::H2,i,h=>by
  obtain⟨h1,h2⟩:=h
  obtain⟨o,ho,e1,e2,e3,e4,e5⟩:=Z03 h1
  obtain⟨k1,k2⟩:=h2.get
  refine⟨by simp[k1],λb hb=>?_⟩
  cases b with
  |zero=>exact⟨j,o,o2,rfl,ho,rfl,e1,e2,e3,e4,e5⟩
  |succ b =>
   obtain⟨j',o',o2',x1,x2,x3,x4,x5,x6,x7,x8⟩:=k2 b (by simpa using hb)
   exact⟨j',o',o2',by simpa using x1,x2,by simpa using x3,x4,x5,by omega,x7,x8⟩
 |[],_::_,i,h=>h.elim
 |_::_,[],i,h=>h.elim
theorem FgS.giveup {k : Nat} {fs m : List Nat} {tm tm2 : Tr} {H H2 : Z00} (htr : ∀ n u2, Z15 tm2 n = some u2 -> ∃ u, Z15 tm n = some u /\ WkZ fs H m u u2) (htx : ∀ n, tex tm2 n = true -> tex tm n = true)
  (hp:HpGeZ fs H m m H2 0) (hfams:Z0S (m.map (Z0m H))=true) (hkp:Zec k 0 m=true) (hd:(m.map (Z0m H)).all (λf=>!mem f fs)=true):FgS k tm H tm2 H2:=by
 intro sn ι W a hR ht
 obtain⟨hl,hg⟩:=hp.get
 generalize hHQ:Z5G fs H=HQ
 have inQ:∀(b:Nat)(o:AObj),HQ[b]? = some o->o.alive=true->H[b]? = some o/\mem o.fam fs=true:=λb o hb hal=>by
  rw[<- hHQ]at hb
  obtain⟨o0,g1,_,_,g4⟩:=Z1T hb
  obtain⟨rfl,g5⟩:=g4 hal
  exact⟨g1,by simpa using g5⟩
 have hle:∀a v,sn a=some v->snO sn ι HQ W a=some v:=λa v hv=>by
  unfold snO
  split
  ·exact (hR.snap a v hv).2.1
  ·exact hv
 have hcell:∀a v,snO sn ι HQ W a=some v->W.cell? a=some v:=λa v hv=>by
  unfold snO at hv
  split at hv
  ·exact hv
  ·exact (hR.snap a v hv).2.1
 have hobjQ:∀(b:Nat)(o:AObj) p,HQ[b]? = some o->o.alive=true -> ι b=some p->OR sn ι W o.body p:=λb o p hb hal hp=>hR.obj b o p (inQ b o hb hal).1 hal hp
 have hz:∀(u u2:AV)(v:Value),WkZ fs H m u u2->VR sn ι u v->VR (snO sn ι HQ W) (iot m ι) u2 v:=λu u2 v h hv=>by
  rcases h with h|h
  ·exact Z0R ⟨hle,λ_ _ h=>h⟩ _ _ (h _ _ _ hv)
  · rw[hHQ]at h
    exact Zbc (Z30 hobjQ ⟨hle,λ_ _ h=>h⟩ (λb o p hb hal hp off v hv=>by
     unfold snO;rw[if_pos ⟨b,o,p,hb,hal,hp,rfl⟩];exact hv) 30 u u2 v h hv)
 have at2:∀{b:Nat}{o2:AObj}{p:Place},H2[b]? = some o2->iot m ι b=some p->∃j o,m[b]? = some j/\H[j]? = some o /\ ι j=some p/\o.alive=true/\o2.alive=true/\o2.fam=b/\o2.sh=o.sh/\BodyGeZ fs H m o.body o2.body:=by
  intro b o2 p hb hp
  obtain⟨j,o,o2',x1,x2,x3,x4,x5,x6,x7,x8⟩:=hg b (by rw[<- hl];exact (Y0e.1 hb).1)
  rw[hb]at x3;simp at x3;subst x3
  simp only[iot,x1]at hp
  exact⟨j,o,x1,x2,hp,x4,x5,by omega,x7,x8⟩
 have hout:∀{b j:Nat}{o:AObj},m[b]? = some j->H[j]? = some o->mem o.fam fs=false:=λ{b j o} x1 x2=>by
  have hm:o.fam∈m.map (Z0m H):=List.mem_map.2 ⟨j,Y0o x1,by simp[Z0m,x2]⟩
  have:=List.all_eq_true.1 hd _ hm
  simpa using this
 have hR2:R (snO sn ι HQ W) (iot m ι) H2 W:=by
  refine⟨λb=>⟨λhb=>?_,λ⟨p,hp⟩=>?_⟩,λb p hp=>?_,λb o2 p hb ha hp=>?_,λb b' o o' p p' hb hb' ha ha' hp hp' e=>?_,λad v hv=>?_,λb o2 p hb hp e=>?_⟩
  · obtain⟨j,o,o2,x1,x2,_⟩:=hg b (by omega)
    obtain⟨p,hp⟩:=hR.place x2
    exact⟨p,by simp only[iot,x1];exact hp⟩
  · unfold iot at hp
    split at hp
    ·rename_i j hj;rw[hl];exact (Y0e.1 hj).1
    ·cases hp
  · unfold iot at hp
    split at hp
    ·exact hR.blk _ p hp
    ·cases hp
  · obtain⟨j,o,x1,x2,x3,x4,x5,x6,x7,x8⟩:=at2 hb hp
    have hor:=hR.obj j o p x2 x4 x3
    generalize o.body=b1 at x8 hor
    generalize o2.body=b2 at x8
    unfold BodyGeZ at x8
    split at x8
    · obtain⟨rfl,h1,h2⟩:=x8
      simp only[OR]at hor⊢
      obtain⟨arr,g1,g2,g3,g4⟩:=hor
      refine⟨arr,g1,g2,by omega,λi c2 hc=>?_⟩
      obtain⟨c,e1,e2⟩:=h2 i c2 hc
      obtain⟨v,e3,e4⟩:=g4 i c e1
      exact⟨v,e3,hz _ _ _ e2 e4⟩
    ·exact Z0Q ⟨hle,λ_ _ h=>h⟩ rfl (x8.or hor)
  · obtain⟨j,q,x1,x2,x3,x4,x5,x6,x7,x8⟩:=at2 hb hp
    obtain⟨j',q',y1,y2,y3,y4,y5,y6,y7,y8⟩:=at2 hb' hp'
    have hs:=hR.sep j j' q q' p p' x2 y2 x4 y4 x3 y3 e
    have:b=b':=Z4e (l:=m.map (Z0m H)) (x:=q.fam) hfams (by simp[x1,Z0m,x2]) (by simp[y1,Z0m,y2,hs.1])
    subst this
    exact⟨by rw[x6,y6],by rw[x7,y7];exact hs.2⟩
  · refine⟨ZgT (hcell ad v hv),hcell ad v hv,λb o2 p hb ha hp hne=>?_⟩
    obtain⟨j,o,x1,x2,x3,x4,_⟩:=at2 hb hp
    unfold snO at hv
    split at hv
    · rename_i hex
      obtain⟨b',o',p',z1,z2,z3,z4⟩:=hex
      obtain⟨y1,y2⟩:=inQ b' o' z1 z2
      have:=(hR.sep j b' o o' p p' x2 y1 x4 z2 x3 z3 (hne.trans z4.symm)).1
      have h5:=hout x1 x2
      rw[this,y2]at h5;cases h5
    ·exact (hR.snap ad v hv).2.2 j o p x2 x4 x3 hne
  · obtain⟨j,o,x1,x2,x3,x4,x5,x6,x7,x8⟩:=at2 hb hp
    exact hR.shz j o p x2 x3 (by omega)
 refine⟨snO sn ι HQ W,iot m ι,⟨hR2,hle,λb o2 p hb ha hp=>?_,λ_ _ _=>rfl,Y04 _,rfl,rfl,rfl,λad v hv=>?_,λb p hb hp=>by have:=Z6B hkp b hb;simp only[Nat.zero_add]at this;simp only[iot,this];exact hp⟩,λt u2 hu=>?_,λt hx=>ht.2 t (htx t hx)⟩
 · obtain⟨j,o,x1,x2,x3,x4,_⟩:=at2 hb hp
   exact .inr ⟨j,o,p,x2,x4,x3,rfl⟩
 · unfold snO at hv
   split at hv
   · rename_i hex
     obtain⟨b,o,p,x1,x2,x3,x4⟩:=hex
     exact .inr (.inr ⟨b,o,p,(inQ b o x1 x2).1,x2,x3,x4⟩)
   ·exact .inl hv
 · obtain⟨u,h1,h2⟩:=htr t u2 hu
   obtain⟨v,h3,h4⟩:=ht.1 t u h1
   exact⟨v,h3,hz _ _ _ h2 h4⟩
theorem WkZ.fz{fs:List Nat}{H:Z00}{m:List Nat}{u u2:AV}(h:frz (Z5G fs H) 30 u=some u2):WkZ fs H m u u2:=.inr h
theorem BodyGe.z{fs:List Nat}{H:Z00}{m:List Nat}{b b2:ABody}(h:BodyGe m b b2):BodyGeZ fs H m b b2:=by
 unfold BodyGeZ
 split
 · obtain⟨h1,h2,h3⟩:=h
   exact⟨h1,h2,λi c2 hc=>let ⟨c,e1,e2⟩:=h3 i c2 hc;⟨c,e1,.inl e2⟩⟩
 ·exact h
theorem BodyGeZ.snoc{fs:List Nat}{H:Z00}{m:List Nat}{cs:List AV}{u u2:AV}{ty:TypeId}(h:refsL cs []=[])(hu:WkZ fs H m u u2):BodyGeZ fs H m (.cells (cs++[u]) ty) (.cells (cs++[u2]) ty):=by
 refine⟨rfl,by simp,λi c2 hc=>?_⟩
 by_cases hi:i<cs.length
 · rw[Y0g hi]at hc⊢
   obtain⟨_,_,h3⟩:=Y06 (m:=m) (cs:=cs) (rest:=[]) (ty:=ty) (by simp) h
   obtain⟨c,e1,e2⟩:=h3 i c2 hc
   exact⟨c,e1,.inl e2⟩
 · rw[Y0m (by omega)]at hc⊢
   obtain⟨n,hn⟩:∃n,i-cs.length=n:=⟨_,rfl⟩
   rw[hn]at hc⊢
   cases n with
   |zero=>simp only[List.getElem?_cons_zero,Option.some.injEq]at hc;subst hc;exact⟨u,rfl,hu⟩
   |succ n=>simp at hc
end Go.Abs
end
section
namespace Go.Abs
open Go.RowKit
theorem Za6 {P : Program} {gl : Z0w} {f k : Nat} {Hs Hs' : Z00} {args : List AV} {r : AV} (hM : Z7R P gl k f args Hs r Hs') (hl : Hs.length = k) (hl' : Hs'.length = k)
  (hev:∀(b:Nat)(o o':AObj),Hs[b]? = some o->Hs'[b]? = some o'->o'.fam=o.fam/\o'.sh=o.sh/\(o'.alive=true->o.alive=true)):Z3F P gl f args Hs r Hs':=by
 intro sn ι W vargs hg hR ha
 refine (hM sn ι W vargs hg hR ha).mono ?_
 rintro e W' ⟨v,sn',ι',rfl,hv,hst⟩
 have hι : ∀b p,ι b=some p -> ι' b=some p:=λb p hp=>hst.keep b p (by have:=(hR.dom b).2 ⟨p,hp⟩;omega) hp
 have hι2:∀b p,ι' b=some p -> ι b=some p:=λb p hp=>by
  obtain⟨q,hq⟩:=(hR.dom b).1 (by have:=(hst.rel.dom b).2 ⟨p,hp⟩;omega)
  have:=hι b q hq
  rw[hp]at this;cases this;exact hq
 refine⟨v,sn',ι',rfl,hv,hst.rel,⟨hst.le,hι⟩,λb p hp=>.inl (hι2 b p hp),hst.frame,hst.size,hst.os,hst.tape,hst.output,hst.sfresh,λb o hb=>?_⟩
 have hb':b<Hs'.length:=by have:=(Y0e.1 hb).1;omega
 obtain⟨e1,e2,e3⟩:=hev b o _ hb (Y0d hb')
 exact⟨_,Y0d hb',e1,e2,e3⟩
end Go.Abs
end
section
namespace Go.Abs
open Go.RowKit
def sgS(m:List Nat)(d:Nat)(b:Nat):Nat:=if b<m.length then m.getD b 0 else d+(b-m.length)
def Zbq(m:List Nat)(σ : Nat->Nat)(Hs:Z00):Nat->Z00->Z00
 |_,[]=>[]
 |i,o::H=>(match Z3H m i 0 with
  |some j=>match Hs[j]? with
   |some o'=>{ o with alive:=o'.alive,body:=Z6A σ o'.body }
   |none=>o
  |none=>o)::Zbq m σ Hs (i+1) H
theorem Z8C (m : List Nat) (σ : Nat -> Nat) (Hs : Z00) : ∀ (H : Z00) (i b : Nat), (Zbq m σ Hs i H)[b]? = (H[b]?).map fun o => match Z3H m (i + b) 0 with
  |some j=>match Hs[j]? with
   |some o'=>{ o with alive:=o'.alive,body:=Z6A σ o'.body }
   |none=>o
  |none=>o
 |[],i,b=>by simp[Zbq]
 |o::H,i,0=>by
  simp only[Zbq,List.getElem?_cons_zero,Y0r,Nat.add_zero]<;>rfl
 |o::H,i,b+1=>by
  simp only[Zbq,List.getElem?_cons_succ]
  rw[Z8C m σ Hs H (i+1) b,show i+1+b=i+(b+1) by omega]
theorem Zcw(m:List Nat)(σ : Nat->Nat)(Hs:Z00):∀(H:Z00)(i:Nat),(Zbq m σ Hs i H).length=H.length
 |[],i=>rfl
 |o::H,i=>by simp only[Zbq,Y03,Zcw m σ Hs H (i+1)]
def shS(σ : Nat->Nat):Nat->Z00->Z00
 |_,[]=>[]
 |n,o::H=>⟨o.alive,n,o.sh,Z6A σ o.body⟩::shS σ (n+1) H
theorem Zfo(σ : Nat->Nat):∀(H:Z00)(n b:Nat),(shS σ n H)[b]? = (H[b]?).map λo=>⟨o.alive,n+b,o.sh,Z6A σ o.body⟩
 |[],n,b=>by simp[shS]
 |o::H,n,0=>rfl
 |o::H,n,b+1=>by
  simp only[shS,List.getElem?_cons_succ]
  rw[Zfo σ H (n+1) b,show n+1+b=n+(b+1) by omega]
theorem Zbz(σ : Nat->Nat):∀(H:Z00)(n:Nat),(shS σ n H).length=H.length
 |[],n=>rfl
 |o::H,n=>by simp only[shS,Y03,Zbz σ H (n+1)]
def Z7s:Z00->List Nat
 |[]=>[]
 |o::H=>cond o.alive (o.fam::Z7s H) (Z7s H)
theorem Z7r:∀{H:Z00}{i:Nat}{o:AObj},H[i]? = some o->o.alive=true->mem o.fam (Z7s H)=true
 |[],i,o,h,_=>by simp at h
 |x::H,0,o,h,ha=>by
  simp at h;subst h
  simp only[Z7s,ha,cond_true]
  exact Z0W.2 (List.mem_cons_self ..)
 |x::H,i+1,o,h,ha=>by
  have:=Z0W.1 (Z7r (H:=H) (by simpa using h) ha)
  unfold Z7s
  cases x.alive
  ·exact Z0W.2 this
  ·exact Z0W.2 (List.mem_cons_of_mem _ this)
theorem Z5n:∀{H:Z00}{i j:Nat}{o o':AObj},Z0S (Z7s H)=true->H[i]? = some o->H[j]? = some o'->o.alive=true->o'.alive=true->o.fam=o'.fam->i=j
 |[],i,j,o,o',h,e,_,_,_,_=>by simp at e
 |x::H,i,j,o,o',h,e,e',ha,ha',hf=>by
  have hn:Z0S (Z7s H)=true:=by
   unfold Z7s at h
   cases hx:x.alive
   ·rw[hx]at h;exact h
   · rw[hx]at h
     simp only[cond_true,Z0S,Y0l]at h
     exact h.2
  have hx:x.alive=true->mem x.fam (Z7s H)=false:=λhx=>by
   unfold Z7s at h
   rw[hx]at h
   simp only[cond_true,Z0S,Y0l,Bool.not_eq_true']at h
   exact h.1
  cases i with
  |zero =>
   cases j with
   |zero=>rfl
   |succ j =>
    simp at e e';subst e
    have:=Z7r e' ha'
    rw[<- hf,hx ha]at this;cases this
  |succ i =>
   cases j with
   |zero =>
    simp at e e';subst e'
    have:=Z7r e ha
    rw[hf,hx ha']at this;cases this
   |succ j =>
    simp at e e'
    rw[Z5n hn e e' ha ha' hf]
theorem ZfN {P : Program} {gl : Z0w} {f : Nat} {Hs Hs' Hc : Z00} {fargs cargs : List AV} {r : AV} {m : List Nat} (hM : Z3F P gl f fargs Hs r Hs') (hargs : Wk m (.tuple cargs) (.tuple fargs)) (hsub : HpGe Hc m m Hs 0)
  (hnd:Z0S (m.map (Z0m Hc))=true) (hlone:Z0O m (m.map (Z0m Hc)) 0 Hc=true) (hnA:Z0S (Z7s Hs')=true) (hF:∀o∈Hc,o.fam<Hc.length)
  (hg2:∀(i:Nat)(o:AObj),Hs'[i]? = some o->Z0h Hs'.length (Z6m o.body [])=true) (hrk:Z0h Hs'.length (Z0z r [])=true) :
  Z3F P gl f cargs Hc (ren (sgS m Hc.length) r) (Zbq m (sgS m Hc.length) Hs' 0 Hc++shS (sgS m Hc.length) Hc.length (Hs'.drop m.length)):=by
 intro sn ι W vargs hg hR hl
 obtain⟨hl1,hg1⟩:=hsub.get
 have inm:∀b,b∈m->∃ (i:Nat) (o o2:AObj) (p:Place),m[i]? = some b/\Hc[b]? = some o/\Hs[i]? = some o2/\o.alive=true/\o2.alive=true /\ ι b=some p/\o2.sh=o.sh:=by
  intro b hb
  obtain⟨i,hi,rfl⟩:=List.mem_iff_getElem.1 hb
  obtain⟨j,o,o2,x1,x2,x3,x4,x5,_,x7,_⟩:=hg1 i hi
  rw[Y0d hi]at x1
  cases x1
  obtain⟨p,hp⟩:=hR.place x2
  exact⟨i,o,o2,p,Y0d hi,x2,x3,x4,x5,hp,x7⟩
 have apart_:∀(b:Nat)(o:AObj)(p:Place),Hc[b]? = some o->o.alive=true->b ∉ m -> ι b=some p->∀b' p',b'∈m -> ι b'=some p'->p'.blk≠p.blk:=by
  intro b o p ho hoa hb hp b' p' hb' hp' e
  obtain⟨i,o',o2,q,y1,y2,y3,y4,y5,y6,_⟩:=inm b' hb'
  have hs:=hR.sep b b' o o' p p' ho y2 hoa y4 hp hp' e.symm
  rcases Z7d hlone ho hoa with h|h
  ·exact hb (by simpa using h)
  · refine h ?_
    rw[List.mem_map]
    exact⟨b',hb',by simp only[Z0m,y2];exact hs.1.symm⟩
 have hRs:R sn (iot m ι) Hs W:=Zlv hsub hnd hR
 have atm:∀{i:Nat}{p:Place},iot m ι i=some p->∃b,m[i]? = some b/\b∈m /\ ι b=some p:=λ{i p} hp=>by
  unfold iot at hp
  split at hp
  ·rename_i b hb;exact⟨b,hb,Y0o hb,hp⟩
  ·cases hp
 have hla:LR sn (iot m ι) fargs vargs:=by
  have h1:VR sn ι (.tuple cargs) (.tuple vargs.toArray):=by simp only[VR];exact⟨_,rfl,by simpa using hl⟩
  have h2:=hargs _ _ _ h1
  simp only[VR]at h2
  obtain⟨d,e1,e2⟩:=h2
  simp at e1;subst e1;simpa using e2
 refine (hM sn (iot m ι) W vargs hg hRs hla).mono ?_
 rintro e W' ⟨v,sn',ι',rfl,hv,hst⟩
 generalize hd:Hc.length=d at *
 generalize hk:m.length=k at *
 have hk':k<=Hs'.length:=by
  rcases Nat.eq_zero_or_pos k with h|h
  ·omega
  · have:=(Y0e.1 (hst.evo (k-1) _ (Y0d (by omega))).choose_spec.1).1
    omega
 let κ : Z0i:=λb=>if b<d then ι b else ι' (k+(b-d))
 have k1:∀b,b<d -> κ b = ι b:=λb hb=>if_pos hb
 have k2:∀b,d<=b -> κ b = ι' (k+(b-d)):=λb hb=>by show (if b<d then ι b else ι' (k+(b-d)))=_;rw[if_neg (by omega)]
 have mLt:∀{i b:Nat},m[i]? = some b->b<d:=λ{i b} h=>by
  obtain⟨_,o,_,p,_,y2,_⟩:=inm b (Y0o h)
  rw[<- hd];exact (Y0e.1 y2).1
 have hfwd:∀(i b:Nat)(p:Place),m[i]? = some b -> ι b=some p -> ι' i=some p:=λi b p hb hp=>hst.le.ι i p (by simp only[iot,hb];exact hp)
 have hback:∀i,i<Hs'.length->∀p,ι' i=some p -> κ (sgS m d i)=some p:=λi hi p hp=>by
  unfold sgS
  rw[hk]
  by_cases hik:i<k
  · obtain⟨b,hb⟩:∃b,m[i]? = some b:=⟨m[i],Y0d (by omega)⟩
    obtain⟨q,hq⟩:=(hR.dom b).1 (by rw[hd];exact mLt hb)
    have:=hfwd i b q hb hq
    rw[hp]at this;cases this
    rw[if_pos hik,List.getD_eq_getElem?_getD,hb]
    show κ b=some p
    rw[k1 b (mLt hb)];exact hq
  ·rw[if_neg hik,k2 _ (by omega),show k+(d+(i-k)-d)=i by omega];exact hp
 have pos_:∀b,b∈m->∃i,Z3H m b 0=some i/\m[i]? = some b:=λb hb=>by
  cases hx:Z3H m b 0 with
  |none=>exact (Z77 hx hb).elim
  |some i=>exact⟨i,rfl,by simpa using (Z2T hx).2⟩
 have hlen:(Zbq m (sgS m d) Hs' 0 Hc).length=d:=by rw[Zcw,hd]
 have hnr:∀c,c<W.heap.size->(∀(b:Nat)(o:AObj) p,Hc[b]? = some o->o.alive=true -> ι b=some p->p.blk≠c)->W'.heap[c]? = W.heap[c]?:=λc hc hno=>by
  refine hst.frame c hc λi o2 p2 hi ha hp2 e=>?_
  obtain⟨b,_,hb,hp3⟩:=atm hp2
  obtain⟨_,o,_,_,_,y2,_,y4,_⟩:=inm b hb
  exact hno b o p2 y2 y4 hp3 e
 have old:∀(b:Nat)(o:AObj)(p:Place),Hc[b]? = some o->o.alive=true->b ∉ m -> ι b=some p->W'.heap[p.blk]? = W.heap[p.blk]?:=λb o p ho hoa hb hp=>by
  refine hst.frame _ (hR.blk b p hp) λi o2 p2 hi ha hp2 e=>?_
  obtain⟨c,_,hc,hp3⟩:=atm hp2
  exact apart_ b o p ho hoa hb hp c p2 hc hp3 e
 have new_:∀(j:Nat)(x:AObj)(p:Place),Hs'[j]? = some x->x.alive=true->k<=j -> ι' j=some p->∀(b:Nat)(o:AObj)(q:Place),Hc[b]? = some o->o.alive=true->b ∉ m -> ι b=some q->q.blk≠p.blk:=by
  intro j x p hj hja hkj hp b o q ho hoa hb hq e
  rcases hst.fresh j p hp with h|h|⟨b0,o0,p0,e1,e2,e3,e4⟩
  · obtain⟨c,hc,_⟩:=atm h
    have:=(Y0e.1 hc).1;omega
  ·have:=hR.blk b q hq;omega
  · obtain⟨c,_,hc,hp3⟩:=atm e3
    exact apart_ b o q ho hoa hb hq c p0 hc hp3 (e4.trans e.symm)
 have hget : ∀ (b : Nat) (o' : AObj) (p : Place), (Zbq m (sgS m d) Hs' 0 Hc ++ shS (sgS m d) d (Hs'.drop k))[b]? = some o' -> κ b = some p ->
   (b<d /\ ι b=some p/\∃o,Hc[b]? = some o/\o'.fam=o.fam/\o'.sh=o.sh/\((b ∉ m/\o'=o)\/∃i x,m[i]? = some b/\i<k/\Hs'[i]? = some x/\o'.alive=x.alive/\o'.body=Z6A (sgS m d) x.body/\o.alive=true /\ ι' i=some p)) \/
   (d<=b /\ ι' (k+(b-d))=some p/\∃x,Hs'[k+(b-d)]? = some x/\o'=⟨x.alive,b,x.sh,Z6A (sgS m d) x.body⟩):=by
  intro b o' p hb hp
  by_cases hlt:b<d
  · rw[Y0g (by omega)]at hb
    rw[k1 b hlt]at hp
    refine .inl ⟨hlt,hp,?_⟩
    rw[Z8C]at hb
    simp only[Nat.zero_add]at hb
    cases hx:Hc[b]? with
    |none=>rw[hx]at hb;cases hb
    |some o =>
     rw[hx]at hb
     simp only[Y0r,Option.some.injEq]at hb
     refine⟨o,rfl,?_⟩
     by_cases hbm:b∈m
     · obtain⟨i,h1,h2⟩:=pos_ b hbm
       have hi:i<k:=by rw[<- hk];exact (Y0e.1 h2).1
       have hi':i<Hs'.length:=by omega
       rw[h1]at hb
       simp only[Y0d hi']at hb
       subst hb
       obtain⟨_,y,_,_,_,y2,_,y4,_⟩:=inm b hbm
       rw[hx]at y2;cases y2
       exact⟨rfl,rfl,.inr ⟨i,Hs'[i],h2,hi,Y0d hi',rfl,rfl,y4,hfwd i b p h2 hp⟩⟩
     · have hn : Z3H m b 0 = none := by
        cases hx:Z3H m b 0 with
        |none=>rfl
        |some i=>exact (hbm (Y0o (Z2T hx).2)).elim
       rw[hn]at hb
       subst hb
       exact⟨rfl,rfl,.inl ⟨hbm,rfl⟩⟩
  · rw[Y0m (by omega),hlen,Zfo,List.getElem?_drop]at hb
    rw[k2 b (by omega)]at hp
    cases hx:Hs'[k+(b-d)]? with
    |none=>rw[hx]at hb;cases hb
    |some x =>
     rw[hx]at hb
     simp only[Y0r,Option.some.injEq]at hb
     exact .inr ⟨by omega,hp,x,rfl,by rw[<- hb,show d+(b-d)=b by omega]⟩
 have hal:∀{b:Nat}{o o':AObj}{p:Place},((b ∉ m/\o'=o)\/∃i x,m[i]? = some b/\i<k/\Hs'[i]? = some x/\o'.alive=x.alive/\o'.body=Z6A (sgS m d) x.body/\o.alive=true /\ ι' i=some p)->o'.alive=true->o.alive=true:=λ{b o o' p} h ha=>by
  rcases h with ⟨_,rfl⟩|⟨_,_,_,_,_,_,_,h,_⟩
  ·exact ha
  ·exact h
 have hR':R sn' κ (Zbq m (sgS m d) Hs' 0 Hc++shS (sgS m d) d (Hs'.drop k)) W':=by
  refine⟨λb=>⟨λhb=>?_,λ⟨p,hp⟩=>?_⟩,λb p hp=>?_,λb o' p hb ha hp=>?_,λb b' o o' p p' hb hb' ha ha' hp hp' e=>?_,λa v hv=>?_,λb o' p hb hp e=>?_⟩
  · simp only[Y05,hlen,Zbz,List.length_drop]at hb
    by_cases hlt:b<d
    ·rw[k1 b hlt];exact (hR.dom b).1 (by omega)
    ·rw[k2 b (by omega)];exact (hst.rel.dom _).1 (by omega)
  · simp only[Y05,hlen,Zbz,List.length_drop]
    by_cases hlt:b<d
    ·omega
    · rw[k2 b (by omega)]at hp
      have:=(hst.rel.dom _).2 ⟨p,hp⟩;omega
  · by_cases hlt:b<d
    ·rw[k1 b hlt]at hp;exact Nat.lt_of_lt_of_le (hR.blk b p hp) hst.size
    ·rw[k2 b (by omega)]at hp;exact hst.rel.blk _ p hp
  · rcases hget b o' p hb hp with ⟨b1,b2,o,b3,b4,b5,⟨b6,rfl⟩|⟨i,x,c1,c2,c3,c4,c5,c6,c7⟩⟩|⟨b1,b2,x,b3,rfl⟩
    · refine Z0Q ⟨hst.le.sn,λc p hc=>?_⟩ (old b _ p b3 ha b6 b2) (hR.obj b _ p b3 ha b2)
      rw[k1 c (by have:=(hR.dom c).2 ⟨p,hc⟩;omega)];exact hc
    · rw[c5]
      exact ZdR x.body (Z60 x.body p (λy hy=>hback y (Z1D (hg2 i x c3) y hy)) (hst.rel.obj i x p c3 (by rw[<- c4];exact ha) c7))
    ·exact ZdR x.body (Z60 x.body p (λy hy=>hback y (Z1D (hg2 _ x b3) y hy)) (hst.rel.obj _ x p b3 ha b2))
  · rcases hget b o p hb hp with ⟨b1,b2,x,b3,b4,b5,b6⟩|⟨b1,b2,x,b3,rfl⟩<;>rcases hget b' o' p' hb' hp' with ⟨c1,c2,y,c3,c4,c5,c6⟩|⟨c1,c2,y,c3,rfl⟩
    · rw[b4,b5,c4,c5]
      exact hR.sep b b' x y p p' b3 c3 (hal b6 ha) (hal c6 ha') b2 c2 e
    · exfalso
      rcases b6 with ⟨b6,rfl⟩|⟨i,z,d1,d2,d3,d4,d5,d6,d7⟩
      ·exact new_ _ y p' c3 ha' (by omega) c2 b _ p b3 ha b6 b2 e
      · have hs:=(hst.rel.sep i _ z y p p' d3 c3 (by rw[<- d4];exact ha) ha' d7 c2 e).1
        have:=Z5n hnA d3 c3 (by rw[<- d4];exact ha) ha' hs
        omega
    · exfalso
      rcases c6 with ⟨c6,rfl⟩|⟨i,z,d1,d2,d3,d4,d5,d6,d7⟩
      ·exact new_ _ x p b3 ha (by omega) b2 b' _ p' c3 ha' c6 c2 e.symm
      · have hs:=(hst.rel.sep _ i x z p p' b3 d3 ha (by rw[<- d4];exact ha') b2 d7 e).1
        have:=Z5n hnA b3 d3 ha (by rw[<- d4];exact ha') hs
        omega
    · have hs:=hst.rel.sep _ _ x y p p' b3 c3 ha ha' b2 c2 e
      have:=Z5n hnA b3 c3 ha ha' hs.1
      have hbb:b=b':=by omega
      exact⟨hbb,hs.2⟩
  · obtain⟨h1,h2,h3⟩:=hst.rel.snap a v hv
    refine⟨h1,h2,λb o' p hb ha hp he=>?_⟩
    rcases hget b o' p hb hp with ⟨b1,b2,o,b3,b4,b5,⟨b6,rfl⟩|⟨i,x,c1,c2,c3,c4,c5,c6,c7⟩⟩|⟨b1,b2,x,b3,rfl⟩
    · rcases hst.sfresh a v hv with f1|f1|⟨b0,o0,p0,f1,f2,f3,f4⟩
      ·exact (hR.snap a v f1).2.2 b _ p b3 ha b2 he
      ·have:=hR.blk b p b2;omega
      · obtain⟨c,_,hc,hp3⟩:=atm f3
        exact apart_ b _ p b3 ha b6 b2 c p0 hc hp3 (f4.trans he.symm)
    ·exact h3 i x p c3 (by rw[<- c4];exact ha) c7 he
    ·exact h3 _ x p b3 ha b2 he
  · rcases hget b o' p hb hp with ⟨b1,b2,o,b3,b4,b5,b6⟩|⟨b1,b2,x,b3,rfl⟩
    ·exact hR.shz b o p b3 b2 (by rw[<- b5];exact e)
    ·exact hst.rel.shz _ x p b3 b2 e
 have oldp:∀(b0:Nat)(o0:AObj)(p0:Place),Hs[b0]? = some o0->o0.alive=true->iot m ι b0=some p0->∃ (b1:Nat) (o1:AObj) (p1:Place),Hc[b1]? = some o1/\o1.alive=true /\ ι b1=some p1/\p1.blk=p0.blk:=λb0 o0 p0 e1 e2 e3=>by
  obtain⟨c,_,hc,hp3⟩:=atm e3
  obtain⟨_,o,_,_,_,y2,_,y4,_⟩:=inm c hc
  exact⟨c,o,p0,y2,y4,hp3,rfl⟩
 refine⟨v,sn',κ,rfl,?_,hR',⟨hst.le.sn,λb p hb=>?_⟩,λb p hp=>?_,hnr,hst.size,hst.os,hst.tape,hst.output,λa v hv=>?_,λb o hb=>?_⟩
 ·exact (Z6j r v).2 (Z1Q r [] v (λy hy=>hback y (Z1D hrk y hy)) hv)
 ·rw[k1 b (by have:=(hR.dom b).2 ⟨p,hb⟩;omega)];exact hb
 · by_cases hlt:b<d
   ·rw[k1 b hlt]at hp;exact .inl hp
   · rw[k2 b (by omega)]at hp
     rcases hst.fresh _ p hp with h|h|⟨b0,o0,p0,e1,e2,e3,e4⟩
     · obtain⟨c,hc,_⟩:=atm h
       have:=(Y0e.1 hc).1;omega
     ·exact .inr (.inl h)
     · obtain⟨b1,o1,p1,g1,g2,g3,g4⟩:=oldp b0 o0 p0 e1 e2 e3
       exact .inr (.inr ⟨b1,o1,p1,g1,g2,g3,g4.trans e4⟩)
 · rcases hst.sfresh a v hv with f1|f1|⟨b0,o0,p0,f1,f2,f3,f4⟩
   ·exact .inl f1
   ·exact .inr (.inl f1)
   · obtain⟨b1,o1,p1,g1,g2,g3,g4⟩:=oldp b0 o0 p0 f1 f2 f3
     exact .inr (.inr ⟨b1,o1,p1,g1,g2,g3,g4.trans f4⟩)
 · have hbd:b<d:=by rw[<- hd];exact (Y0e.1 hb).1
   have hb':b<(Zbq m (sgS m d) Hs' 0 Hc).length:=by omega
   have hx:=Y0d hb'
   obtain⟨p,hp⟩:=hR.place hb
   rcases hget b _ p (by rw[Y0g hb'];exact hx) (by rw[k1 b hbd];exact hp)with ⟨b1,b2,o2,b3,b4,b5,b6⟩|⟨b1,_⟩
   · rw[hb]at b3;cases b3
     exact⟨_,by rw[Y0g hb'];exact hx,b4,b5,λha=>hal b6 ha⟩
   ·omega
end Go.Abs
end
section
namespace Go.Abs
open Go.RowKit
theorem FgS.value {k : Nat} {fs m : List Nat} {H H2 : Z00} (hp : HpGeZ fs H m m H2 0) (hfams : Z0S (m.map (Z0m H)) = true) (hkp : Zec k 0 m = true) (hd : (m.map (Z0m H)).all (fun f => !mem f fs) = true) {sn : Z0l} {ι : Z0i} {W : World} (a : Act) (hR : R sn ι H W) {u u2 : AV} {v : Value} (hv : VR sn ι u v) (hu : WkZ fs H m u u2) :
  ∃sn' ι',Stq k sn ι H W sn' ι' H2 W/\VR sn' ι' u2 v:=by
 have h1:∀(x:AV)(n:Nat)(y:AV),Z15 (.node (some (some x)) .leaf .leaf) n=some y->n=0/\y=x:=λx n y e=>by
  cases n with
  |zero=>cases e;exact⟨rfl,rfl⟩
  |succ n=>simp only[Z15]at e;split at e<;>cases e
 have h2:∀(x:AV)(n:Nat),tex (.node (some (some x)) .leaf .leaf) n=true->n=0:=λx n e=>by
  cases n with
  |zero=>rfl
  |succ n=>simp only[tex]at e;split at e<;>cases e
 obtain⟨sn',ι',hS,hT⟩:=FgS.giveup (k:=k) (fs:=fs) (m:=m) (tm:=.node (some (some u)) .leaf .leaf) (tm2:=.node (some (some u2)) .leaf .leaf) (λn x e=>by
  obtain⟨rfl,rfl⟩:=h1 _ _ _ e
  exact⟨u,rfl,hu⟩) (λn e=>by rw[h2 _ _ e];rfl) hp hfams hkp hd sn ι W { a with tmps:=#[v] } hR ⟨λt x e=>by
  obtain⟨rfl,rfl⟩:=h1 _ _ _ e
  exact⟨v,rfl,hv⟩,λt e=>by rw[h2 _ _ e];exact Nat.zero_lt_one⟩
 obtain⟨v',h3,h4⟩:=hT.1 0 u2 rfl
 have h5:v'=v:=by simpa using h3.symm
 exact⟨sn',ι',hS,h5 ▸ h4⟩
def Znc(P:Program)(l:List ResultVar)(k:Nat)(r:AV)(N:Z00)(tm:Tr)(H:Z00):Prop :=
 onO (Z37 P tm H l) λvs=>∃fs m,Zec k 0 m=true/\HpGeZ fs H m m N 0/\Z0S (m.map (Z0m H))=true/\(m.map (Z0m H)).all (λf=>!mem f fs)=true/\WkZ fs H m (Z3O vs) r
theorem Zit {P : Program} {gl : Z0w} {orc : Orc} {k : Nat} (hm : P.follows .mixedOrders = true) (hn : NoNum P) (hO : OrcSound P gl orc) {f : Nat} {fn : Func} {c : Code} {args : List AV} {H0 N : Z00} {r : AV}
  (hf:P.funcs[f]? = some fn) (hc:fn.body=some c) {cw:CW} (hcw:Zcn P orc cw)
  (h:Z10 (tmk (Zbg args fn.ntmps args.length) (ZcC 20 fn.ntmps)) λtm=>Z24 P gl orc cw (Zct k) c (Znc P fn.results.toList k r N) (λ_ _ _=>False) (Znc P fn.results.toList k r N) tm H0):Z7R P gl k f args H0 r N:=by
 intro sn ι W cargs hg hR ha
 rw[Z0x]at h
 refine .inl (Z3Y hf hc (Z1p (rd:=none) (λ_ _ _ _ _ _ _ _ _ _ _ h=>h.elim) hm hn hO hcw c h) hg hR ha (λ_ _ _ h=>h) λx tm1 H a1 W1 sn1 ι1 hx s1 t1=>?_)
 have key:Znc P fn.results.toList k r N tm1 H->∃v,(results fn a1.tmps).run P W1 = .ok v W1/\∃sn' ι',VR sn' ι' r v/\Stq k sn ι H0 W sn' ι' N W1:=by
  intro h
  obtain⟨us,h1,fs,m,h0,h2,h3,h4,h5⟩:=Z03 h
  obtain⟨vs,k1,k2⟩:=Z1k s1.rel t1 _ _ h1
  obtain⟨sn',ι',hS,hv⟩:=FgS.value (k:=k) h2 h3 h0 h4 a1 s1.rel (Z9S (fn:=fn) k1) h5
  exact⟨_,Z1W k2,sn',ι',hv,s1.trans hS⟩
 cases x with
 |normal =>
  obtain⟨v,k1,sn',ι',k2,k3⟩:=key hx
  exact⟨v,k1,v,sn',ι',rfl,k2,k3⟩
 |exit id=>exact hx.elim
 |ret =>
  obtain⟨v,k1,sn',ι',k2,k3⟩:=key hx
  exact⟨v,k1,v,sn',ι',rfl,k2,k3⟩
end Go.Abs
end
namespace Go.Proofs.YtpcpdlfhcahjgaaGreatDoor.lex
open Go.Abs Go.RowKit
section
def Z5C(l:List (List UInt8)):List AV:=l.map AV.str
def lfH(w:DLf):Z00:=[⟨true,0,0,.cells [.rs w.l.length 1 (Z5C w.l),.bool w.ok] 96⟩]
structure LfOK (w:DLf):Prop where
 few:w.l.length<=1048577
 len:∀s∈w.l,s.length<=1048576
theorem Zg4{gl:Z0w}{f:Nat}{s s':DLf}{args:List AV}{r:AV}(h:Z7R Y00 gl 1 f args (lfH s) r (lfH s')):Z3F Y00 gl f args (lfH s) r (lfH s'):=Za6 h rfl rfl λb o o' h h'=>by
 match b,h,h' with
 |0,h,h'=>cases h;cases h';exact⟨rfl,rfl,λ_=>rfl⟩
 |b+1,h,h'=>cases h
theorem Zke{s s':DLf}{X X':Z00}(h:lfH s++X=lfH s'++X'):s=s'/\X=X':=by
 obtain⟨a,b⟩:=s
 obtain⟨a',b'⟩:=s'
 simp only[lfH,Y08,Y0b,List.cons.injEq,AObj.mk.injEq,ABody.cells.injEq,AV.rs.injEq,AV.bool.injEq,true_and,and_true]at h
 obtain⟨⟨⟨h1,h2⟩,h3⟩,h4⟩:=h
 rw[Z3L h2,h3,h4]
 exact⟨rfl,rfl⟩
def Zif{gl:Z0w}(f:Nat)(hb:Z0E Y00 f=true){I:Type}(G:I->DLf->Prop)(A:I->List AV)(R:I->DLf->AV)(N:I->DLf->DLf)(hA:∀i,Z0h 1 (refsL (A i) [])=true)(hinj:∀i j,A i=A j->i=j)(ok:∀i s,G i s->Z7R Y00 gl 1 f (A i) (lfH s) (R i s) (lfH (N i s))):FamM Y00 gl :=
 have h1:∀x y:I×DLf×Z00,(G x.1 x.2.1/\Z1s [0] x.2.2=true)->(G y.1 y.2.1/\Z1s [0] y.2.2=true)->A x.1=A y.1->lfH x.2.1++x.2.2=lfH y.2.1++y.2.2->R x.1 x.2.1=R y.1 y.2.1/\lfH (N x.1 x.2.1)++x.2.2=lfH (N y.1 y.2.1)++y.2.2:=λx y _ _ h h2=>by
  obtain⟨i,s,X⟩:=x
  obtain⟨j,s',X'⟩:=y
  obtain⟨e1,e2⟩:=Zke h2
  have e3:=hinj _ _ h
  simp only at e1 e2 e3
  subst e1 e2 e3
  exact⟨rfl,rfl⟩
 { I:=I×DLf×Z00,f:=f,G:=λx=>G x.1 x.2.1/\Z1s [0] x.2.2=true,A:=λx=>A x.1,H:=λx=>lfH x.2.1++x.2.2,R:=λx=>R x.1 x.2.1,O:=λx=>lfH (N x.1 x.2.1)++x.2.2,body:=hb,inj:=h1,ok:=λx h=>Zk8 (Zg4 (ok x.1 x.2.1 h.1)) x.2.2 rfl (hA x.1) rfl h.2 }
theorem Z0r{w:DLf}(h:LfOK w):LfOK w.next.2/\w.next.1.length<=1048576:=by
 obtain⟨l,ok⟩:=w
 cases l with
 |nil=>exact⟨h,Y0h _⟩
 |cons s l=>exact⟨⟨by have:=h.few;simp only[Y03]at this;show l.length<=_;omega,λt ht=>h.len t (by simp[show t∈l from ht])⟩,h.len s (by simp)⟩
section
variable {gl:Z0w}
theorem ZcZ(w:DLf)(hw:LfOK w):Z7R Y00 gl 1 52 [.ptr 0 0] (lfH w) (.str w.next.1) (lfH w.next.2):=by
 obtain⟨l,ok⟩:=w
 have hf:=hw.few
 refine Z1v (λ_=>false) 3 follows Z0a Z05 Tryz.func52 rfl ?_
 cases l with
 |nil =>
  simp only[lfH,Z5C,DLf.next,List.map_nil,Y0c]
  repeat' ((conv=>whnf);first|refine stp ?_|with_reducible apply Z01<;>intro h)
  all_goals conv=>whnf
  all_goals exact⟨[0],rfl,⟨hbp,trivial⟩,rfl,Y07 rfl⟩
 |cons s l =>
  simp only[lfH,Z5C,DLf.next,Y0n,Y03]at hf⊢
  have e1:(((l.length+1:Nat):Int)==0)=false:=by simp;omega
  repeat' ((conv=>whnf);first|refine stp ?_|with_reducible apply Z01<;>intro h)
  all_goals conv=>whnf
  all_goals exact⟨[0],rfl,⟨⟨rfl,rfl,rfl,rfl,Y06 (rest:=[]) (by simp[List.take_of_length_le]) rfl⟩,trivial⟩,rfl,Y07 rfl⟩
theorem Za7(w:DLf)(s:List UInt8)(hs:s.length<=1048576):Z7R Y00 runLives.gl 1 68 [.ptr 0 0,.str s] (lfH w) (.int .i64 (w.small s).1) (lfH (w.small s).2):=by
 obtain⟨O,hO,p1,p2,-⟩:=fams (P:=Y00) (gl:=runLives.gl) [
  { I:=Unit,f:=86,G:=λ_=>True,A:=λ_=>[.str s],R:=λ_=>Zdt (Lib.atoiSat s) (Lib.atoiAll s),body:=(by kernel_rfl),inj:=(λ_ _ _ _ _=>rfl),ok:=(λ_ _=>⟨by cases Lib.atoiAll s<;>rfl,ZkV s (by omega)⟩) },
  { I:=Int,f:=45,G:=rgI,A:=(λn=>[.int .i64 n]),R:=(λn=>.str (Z0g n)),body:=(by kernel_rfl),inj:=(λi j _ _ h=>by rw[show i=j by simpa using h]),ok:=(λn h=>⟨rfl,Z6I n h⟩) }] rfl
 have q1:∀H,Z02 Y00 O H 86 [.str s]=some (Zdt (Lib.atoiSat s) (Lib.atoiAll s),H):=p1 () trivial
 have q2:∀n,rgI n->∀H,Z02 Y00 O H 45 [.int .i64 n]=some (.str (Z0g n),H):=p2
 clear p1 p2
 obtain⟨l,ok⟩:=w
 have hno:(∀v,Lib.atoiAll s ≠ .ok v)->(DLf.mk l ok).small s=(0,⟨l,false⟩):=λh=>by
  unfold DLf.small Z81;rw[Zk6 h]
 cases h:Lib.atoiAll s with
 |range =>
  rw[h]at q1 hno
  rw[hno (λv h=>by cases h)]
  simp only[Zdt,Zli,lfH,Z5C]at q1⊢
  refine Z1v (λg=>!(Y09 g 100000)) 3 follows Z0a hO Tryz.func68 rfl ?_
  repeat' ((conv=>whnf);first|with_reducible refine exI (q1 _) ?_|refine stp ?_|with_reducible apply Z01<;>intro h)
  all_goals conv=>whnf
  all_goals exact⟨[0],rfl,⟨hbp,trivial⟩,rfl,Y07 rfl⟩
 |ok v =>
  rw[h]at q1
  have hr:=Zk5 h
  have hv:=ZaT h
  have q2v:=q2 v hv
  simp only[Zdt]at q1
  have e0:(DLf.mk l ok).small s=if 0<=v/\v<=999/\(Z0g v==s)=true then (v,⟨l,ok⟩) else (0,⟨l,false⟩):=by
   unfold DLf.small Z81
   rw[hr]
   by_cases h1:(Z0g v==s)=true
   · rw[if_pos h1]
     by_cases h2:0<=v/\v<=999
     ·simp[h1,h2]
     · simp only[if_neg h2]
       rw[if_neg (λh3=>h2 ⟨h3.1,h3.2.1⟩)]
   · rw[if_neg h1]
     simp only
     rw[if_neg (λh3=>h1 h3.2.2)]
  rw[e0]
  clear e0 hr h hno q2
  generalize Z0g v=T at *
  obtain⟨b,hb⟩:∃b,(T==s)=b:=⟨_,rfl⟩
  have hb2:(!(T==s)) = !b:=by rw[hb]
  rw[hb]
  simp only[lfH,Z5C]
  refine Z1v (λg=>!(Y09 g 100000)) 3 follows Z0a hO Tryz.func68 rfl ?_
  by_cases h1:v<0
  · have d1:decide (v<0)=true:=decide_eq_true h1
    rw[if_neg (by omega)]
    repeat' ((conv=>whnf);first|with_reducible refine exI (q1 _) ?_|with_reducible refine exI (q2v _) ?_|refine stp ?_|with_reducible apply Z01<;>intro h)
    all_goals conv=>whnf
    all_goals exact⟨[0],rfl,⟨hbp,trivial⟩,rfl,Y07 rfl⟩
  have d1:decide (v<0)=false:=decide_eq_false h1
  by_cases h2:v>999
  · have d2:decide (v>999)=true:=decide_eq_true h2
    rw[if_neg (by omega)]
    repeat' ((conv=>whnf);first|with_reducible refine exI (q1 _) ?_|with_reducible refine exI (q2v _) ?_|refine stp ?_|with_reducible apply Z01<;>intro h)
    all_goals conv=>whnf
    all_goals exact⟨[0],rfl,⟨hbp,trivial⟩,rfl,Y07 rfl⟩
  have d2:decide (v>999)=false:=decide_eq_false h2
  cases b
  · rw[if_neg (by intro h;exact absurd h.2.2 (by decide))]
    simp only[Bool.not_false]at hb2
    repeat' ((conv=>whnf);first|with_reducible refine exI (q1 _) ?_|with_reducible refine exI (q2v _) ?_|refine stp ?_|with_reducible apply Z01<;>intro h)
    all_goals conv=>whnf
    all_goals exact⟨[0],rfl,⟨hbp,trivial⟩,rfl,Y07 rfl⟩
  · rw[if_pos ⟨by omega,by omega,rfl⟩]
    simp only[Bool.not_true]at hb2
    repeat' ((conv=>whnf);first|with_reducible refine exI (q1 _) ?_|with_reducible refine exI (q2v _) ?_|refine stp ?_|with_reducible apply Z01<;>intro h)
    all_goals conv=>whnf
    all_goals exact⟨[0],rfl,⟨hbp,trivial⟩,rfl,Y07 rfl⟩
 |_ =>
  rw[h]at q1 hno
  rw[hno (λv h=>by cases h)]
  simp only[Zdt,Zli,lfH,Z5C]at q1⊢
  refine Z1v (λg=>!(Y09 g 100000)) 3 follows Z0a hO Tryz.func68 rfl ?_
  repeat' ((conv=>whnf);first|with_reducible refine exI (q1 _) ?_|refine stp ?_|with_reducible apply Z01<;>intro h)
  all_goals conv=>whnf
  all_goals exact⟨[0],rfl,⟨hbp,trivial⟩,rfl,Y07 rfl⟩
end
end
section
def Z8Q:FamM Y00 runLives.gl:=Zif 52 (by kernel_rfl) (I:=Unit) (λ_ s=>LfOK s) (λ_=>[.ptr 0 0]) (λ_ s=>.str s.next.1) (λ_ s=>s.next.2) (λ_=>rfl) (λ_ _ _=>rfl) (λ_ s h=>ZcZ s h)
def Z8I:FamM Y00 runLives.gl:=Zif 68 (by kernel_rfl) (I:=List UInt8) (λs _=>s.length<=1048576) (λs=>[.ptr 0 0,.str s]) (λs w=>.int .i64 (w.small s).1) (λs w=>(w.small s).2) (λ_=>rfl) (λi j h=>by simpa using h) (λs w h=>Za7 w s h)
theorem ZfV(w:DLf)(hw:LfOK w):Z7R Y00 runLives.gl 1 70 [.ptr 0 0] (lfH w) (.int .i64 w.number.1) (lfH w.number.2):=by
 have hs:=(Z0r hw).2
 obtain⟨O,hO,⟨p3,-⟩,p1,p2,-⟩:=Z5m (P:=Y00) (gl:=runLives.gl) [Z8Q] [
  { I:=Unit,f:=87,G:=λ_=>True,A:=λ_=>[.str w.next.1,.int .i64 10,.int .i64 64],R:=λ_=>Zdt (Lib.intSat 64 w.next.1) (Lib.parseIntB 64 w.next.1),body:=(by kernel_rfl),inj:=(λ_ _ _ _ _=>rfl),ok:=(λ_ _=>⟨by cases Lib.parseIntB 64 w.next.1<;>rfl,ZjT w.next.1 (by omega)⟩) },
  { I:=Int,f:=46,G:=rgI,A:=(λn=>[.int .i64 n]),R:=(λn=>.str (Z0g n)),body:=(by kernel_rfl),inj:=(λi j _ _ h=>by rw[show i=j by simpa using h]),ok:=(λn h=>⟨rfl,ZbZ n h⟩) }] rfl
 have q1:∀H,Z02 Y00 O H 87 [.str w.next.1,.int .i64 10,.int .i64 64]=some (Zdt (Lib.intSat 64 w.next.1) (Lib.parseIntB 64 w.next.1),H):=p1 () trivial
 have q2:∀n,rgI n->∀H,Z02 Y00 O H 46 [.int .i64 n]=some (.str (Z0g n),H):=p2
 have q3:∀X,Z1s [0] X=true->Z02 Y00 O (lfH w++X) 52 [.ptr 0 0]=some (.str w.next.1,lfH w.next.2++X):=λX hX=>p3 ((),w,X) ⟨hw,hX⟩
 clear p1 p2 p3 hw
 have e0:w.number=match Zbh w.next.1 with|some n=>(n,w.next.2)|none=>(0,⟨w.next.2.l,false⟩):=rfl
 rw[e0]
 clear e0
 generalize w.next.1=s at *
 generalize w.next.2=w1 at *
 obtain⟨l0,ok0⟩:=w
 obtain⟨l,ok⟩:=w1
 simp only[lfH,Z5C]at q3
 cases h:Lib.parseIntB 64 s with
 |range =>
  rw[h]at q1
  rw[ZfF (s:=s) (λv hv=>by rw[h]at hv;cases hv)]
  simp only[Zdt,Zli,lfH,Z5C]at q1⊢
  refine Z1v (λg=>!(Y09 g 100000)) 3 follows Z0a hO Tryz.func70 rfl ?_
  repeat' ((conv=>whnf);first|with_reducible refine exI (q1 _) ?_|refine exI (q3 _ rfl) ?_|refine stp ?_|with_reducible apply Z01<;>intro h)
  all_goals conv=>whnf
  all_goals exact⟨[0],rfl,⟨hbp,trivial⟩,rfl,Y07 rfl⟩
 |ok v =>
  rw[h]at q1
  rw[Zk4 h]
  have hv:=Z9Y h
  have q2v:=q2 v hv
  simp only[Zdt]at q1
  clear q2 h hs
  generalize Z0g v=T at *
  obtain⟨b,hb⟩:∃b,(T==s)=b:=⟨_,rfl⟩
  have hb2:(!(T==s)) = !b:=by rw[hb]
  rw[hb]
  simp only[lfH,Z5C]
  refine Z1v (λg=>!(Y09 g 100000)) 3 follows Z0a hO Tryz.func70 rfl ?_
  cases b
  · simp only[Bool.not_false]at hb2
    repeat' ((conv=>whnf);first|with_reducible refine exI (q1 _) ?_|with_reducible refine exI (q2v _) ?_|refine exI (q3 _ rfl) ?_|refine stp ?_|with_reducible apply Z01<;>intro h)
    all_goals conv=>whnf
    all_goals exact⟨[0],rfl,⟨hbp,trivial⟩,rfl,Y07 rfl⟩
  · simp only[Bool.not_true]at hb2
    repeat' ((conv=>whnf);first|with_reducible refine exI (q1 _) ?_|with_reducible refine exI (q2v _) ?_|refine exI (q3 _ rfl) ?_|refine stp ?_|with_reducible apply Z01<;>intro h)
    all_goals conv=>whnf
    all_goals exact⟨[0],rfl,⟨hbp,trivial⟩,rfl,Y07 rfl⟩
 |_ =>
  rw[h]at q1
  rw[ZfF (s:=s) (λv hv=>by rw[h]at hv;cases hv)]
  simp only[Zdt,Zli,lfH,Z5C]at q1⊢
  refine Z1v (λg=>!(Y09 g 100000)) 3 follows Z0a hO Tryz.func70 rfl ?_
  repeat' ((conv=>whnf);first|with_reducible refine exI (q1 _) ?_|refine exI (q3 _ rfl) ?_|refine stp ?_|with_reducible apply Z01<;>intro h)
  all_goals conv=>whnf
  all_goals exact⟨[0],rfl,⟨hbp,trivial⟩,rfl,Y07 rfl⟩
theorem ZiD(s:List UInt8):∃b,Z6q 46 s = .tuple [.str (Z4x s).1,.str (Z4x s).2,.bool b]:=by
 unfold Z6q Z4x
 cases Z1b 46 s with
 |none=>exact⟨_,rfl⟩
 |some p=>exact⟨_,rfl⟩
theorem ZjR(s:List UInt8):(Z4x s).1.length<=s.length/\(Z4x s).2.length<=s.length:=by
 unfold Z4x
 cases h:Z1b 46 s with
 |none=>exact⟨Y04 _,Y0h _⟩
 |some p =>
  obtain⟨x,y⟩:=p
  have:=(Z4j 0 h).2
  rw[this]
  simp only[Y05,Y03]
  constructor<;>omega
theorem Zj8(w:DLf)(hw:LfOK w):Z7R Y00 runLives.gl 1 72 [.ptr 0 0] (lfH w) (.agg (idC w.did.1)) (lfH w.did.2):=by
 have hs:=(Z0r hw).2
 have hpl:=ZjR w.next.1
 obtain⟨O,hO,⟨p3,p4,-⟩,p1,-⟩:=Z5m (P:=Y00) (gl:=runLives.gl) [Z8Q,Z8I] [
  { I:=Unit,f:=25,G:=λ_=>True,A:=λ_=>[.str w.next.1,.str [46]],R:=λ_=>Z6q 46 w.next.1,body:=(by kernel_rfl),inj:=(λ_ _ _ _ _=>rfl),ok:=(λ_ _=>⟨rfl,Zjr 46 (.inr (.inr rfl)) _ (by omega)⟩) }] rfl
 have q1:∀H,Z02 Y00 O H 25 [.str w.next.1,.str [46]]=some (Z6q 46 w.next.1,H):=p1 () trivial
 obtain⟨bb,hcv⟩:=ZiD w.next.1
 rw[hcv]at q1
 have q3:∀X,Z1s [0] X=true->Z02 Y00 O (lfH w++X) 52 [.ptr 0 0]=some (.str w.next.1,lfH w.next.2++X):=λX hX=>p3 ((),w,X) ⟨hw,hX⟩
 have q4:∀X,Z1s [0] X=true->Z02 Y00 O (lfH w.next.2++X) 68 [.ptr 0 0,.str (Z4x w.next.1).1]=some (.int .i64 (w.next.2.small (Z4x w.next.1).1).1,lfH (w.next.2.small (Z4x w.next.1).1).2++X):=λX hX=>p4 ((Z4x w.next.1).1,w.next.2,X) ⟨show (Z4x w.next.1).1.length<=1048576 by omega,hX⟩
 have q5:∀X,Z1s [0] X=true->Z02 Y00 O (lfH (w.next.2.small (Z4x w.next.1).1).2++X) 68 [.ptr 0 0,.str (Z4x w.next.1).2]=some (.int .i64 ((w.next.2.small (Z4x w.next.1).1).2.small (Z4x w.next.1).2).1,lfH ((w.next.2.small (Z4x w.next.1).1).2.small (Z4x w.next.1).2).2++X):=λX hX=>p4 ((Z4x w.next.1).2,(w.next.2.small (Z4x w.next.1).1).2,X) ⟨show (Z4x w.next.1).2.length<=1048576 by omega,hX⟩
 clear p1 p3 p4 hw hcv
 have e0:w.did=(⟨(w.next.2.small (Z4x w.next.1).1).1,((w.next.2.small (Z4x w.next.1).1).2.small (Z4x w.next.1).2).1⟩,((w.next.2.small (Z4x w.next.1).1).2.small (Z4x w.next.1).2).2):=rfl
 rw[e0]
 clear e0
 generalize (w.next.2.small (Z4x w.next.1).1).2.small (Z4x w.next.1).2=b at *
 generalize w.next.2.small (Z4x w.next.1).1=a at *
 generalize w.next.2=w1 at *
 generalize Z4x w.next.1=p at *
 generalize w.next.1=s at *
 obtain⟨l0,ok0⟩:=w
 obtain⟨l1,ok1⟩:=w1
 obtain⟨na,⟨la,oka⟩⟩:=a
 obtain⟨nb,⟨lb,okb⟩⟩:=b
 obtain⟨p1,p2⟩:=p
 simp only[lfH,Z5C,idC]at *
 refine Z1v (λg=>!(Y09 g 100000)) 3 follows Z0a hO Tryz.func72 rfl ?_
 repeat' ((conv=>whnf);first|refine exI (q1 _) ?_|refine exI (q3 _ rfl) ?_|refine exI (q4 _ rfl) ?_|refine exI (q5 _ rfl) ?_|refine stp ?_|with_reducible apply Z01<;>intro h)
 all_goals conv=>whnf
 all_goals exact⟨[0],rfl,⟨hbp,trivial⟩,rfl,Y07 rfl⟩
end
section
def ZeX(s:List UInt8):List (List UInt8×Int)->Option Int
 |[]=>none
 |(k,v)::n=>bif s==k then some v else ZeX s n
def msE:Nat->List (List UInt8×Int)->List (AV×AV×Nat)
 |_,[]=>[]
 |i,(s,v)::l=>(.str s,.int .i64 v,i)::msE (i+1) l
theorem ZfK(s:List UInt8):∀(a:List (List UInt8×Int))(i j:Nat),ZeX s a=none->Z42 .string (.str s) (msE i a) j=some none
 |[],i,j,h=>rfl
 |(x,w)::a,i,j,h=>by
  simp only[ZeX]at h
  cases hx:(s==x) with
  |true=>rw[hx]at h;cases h
  |false =>
   rw[hx]at h
   simp only[msE,Z42,Z7C,hx]
   exact ZfK s a (i+1) (j+1) h
theorem ZfJ(s:List UInt8)(v:Int):∀(a:List (List UInt8×Int))(i j:Nat),ZeX s a=some v->∃k,Z42 .string (.str s) (msE i a) j=some (some (k,.int .i64 v))
 |[],i,j,h=>by cases h
 |(x,w)::a,i,j,h=>by
  simp only[ZeX]at h
  cases hx:(s==x) with
  |true =>
   rw[hx]at h
   simp only[cond_true,Option.some.injEq]at h
   subst h
   exact⟨j,by simp only[msE,Z42,Z7C,hx]⟩
  |false =>
   rw[hx]at h
   obtain⟨k,h1⟩:=ZfJ s v a (i+1) (j+1) h
   exact⟨k,by simp only[msE,Z42,Z7C,hx];rw[h1]⟩
theorem Zn6:Z4G Y00 124=some (.string,3):=by kernel_rfl
theorem Zlm:Z3C Y00 3=some (.int .i64 0):=by kernel_rfl
theorem ZfL{H:Z00}{b f c:Nat}(s:List UInt8)(n:List (List UInt8×Int))(hH:H[b]? = some ⟨true,f,0,.map (msE 0 n) c⟩):Z29 Y00 124 (.map b) (.str s) true H=some (.tuple [.int .i64 ((ZeX s n).getD 0),.bool (ZeX s n).isSome]):=by
 unfold Z29
 simp only[Zn6,ZfP,Z7c,hH]
 cases h:ZeX s n with
 |none=>rw[ZfK s n 0 0 h];simp only[Zlm];rfl
 |some w =>
  obtain⟨k,h1⟩:=ZfJ s w n 0 0 h
  rw[h1];rfl
def Zil:List (List UInt8×Int):=[([114,101,97,100],1),([119,114,105,116,101],2),([117,112,100,97,116,101],3),([102,101,110,99,101],4)]
def ZmH:List (List UInt8×Int):=[(Z3D 1,1),(Z3D 2,2),(Z3D 3,3),(Z3D 4,4),(Z3D 5,5),(Z3D 6,6)]
theorem Zh5{α : Type}(s t:List UInt8)(x y : α):(bif s==t then x else y)=if s=t then x else y:=by
 by_cases h:s=t
 ·rw[if_pos h,h,beq_self_eq_true];rfl
 ·rw[if_neg h,beq_eq_false_iff_ne.2 h];rfl
theorem Zij(s:List UInt8):ZeX s Zil=Z2Z s:=by
 simp only[ZeX,Zil,Z2Z,Zh5]
 rfl
theorem ZjX(s:List UInt8):ZeX s ZmH=Z9u s:=by
 simp only[ZeX,ZmH,Z9u,Zh5]
theorem Zg6{H:Z00}{b f c:Nat}(s:List UInt8)(hH:H[b]? = some ⟨true,f,0,.map (msE 0 Zil) c⟩):Z29 Y00 124 (.map b) (.str s) true H=some (.tuple [.int .i64 ((Z2Z s).getD 0),.bool (Z2Z s).isSome]):=by
 rw[<- Zij];exact ZfL s Zil hH
theorem ZcV{H:Z00}{b f c:Nat}(s:List UInt8)(hH:H[b]? = some ⟨true,f,0,.map (msE 0 ZmH) c⟩):Z29 Y00 124 (.map b) (.str s) true H=some (.tuple [.int .i64 ((Z9u s).getD 0),.bool (Z9u s).isSome]):=by
 rw[<- ZjX];exact ZfL s ZmH hH
theorem Z8R(w:DLf)(f:List UInt8->Option Int):w.look f=((f w.next.1).getD 0,⟨w.next.2.l,w.next.2.ok&&(f w.next.1).isSome⟩):=by
 unfold DLf.look
 cases f w.next.1 with
 |none=>simp
 |some n=>simp
theorem Z5E(w:DLf)(s:List UInt8):(w.small s).2.l=w.l:=by
 unfold DLf.small;split<;>rfl
theorem ZeU{w v:DLf}(h:LfOK w)(e:v.l=w.l):LfOK v:=⟨by rw[e];exact h.few,by rw[e];exact h.len⟩
theorem ZlO(w:DLf):w.number.2.l=w.next.2.l:=by
 unfold DLf.number;split<;>rfl
theorem Zmq(w:DLf):w.did.2.l=w.next.2.l:=by
 unfold DLf.did
 simp only[Z5E]
theorem ZmS(s:List UInt8):(xOf s).1.length<=s.length:=by
 unfold xOf
 split
 ·simp
 ·exact Y04 _
def ZlQ:FamM Y00 runLives.gl:=Zif 70 (by kernel_rfl) (I:=Unit) (λ_ s=>LfOK s) (λ_=>[.ptr 0 0]) (λ_ s=>.int .i64 s.number.1) (λ_ s=>s.number.2) (λ_=>rfl) (λ_ _ _=>rfl) (λ_ s h=>ZfV s h)
def Zjp:FamM Y00 runLives.gl:=Zif 72 (by kernel_rfl) (I:=Unit) (λ_ s=>LfOK s) (λ_=>[.ptr 0 0]) (λ_ s=>.agg (idC s.did.1)) (λ_ s=>s.did.2) (λ_=>rfl) (λ_ _ _=>rfl) (λ_ s h=>Zj8 s h)
end
section
def frN(z n:Nat)(l:List AV):AV:=match n with|0=>.nslice|m+1=>.rs (m+1) z l
def Z3E(l:List DId):AV:=frN 2 l.length (Z07 idC l)
def Z2r(x:DLn)(ids:AV):List AV:=[.str x.kind,.int .i64 x.n,.int .i64 x.v,.int .i64 x.id.t,.int .i64 x.id.i,.int .i64 x.ev.k,.int .i64 x.ev.l,.int .i64 x.ev.o,.int .i64 x.ev.r,.int .i64 x.ev.w,.int .i64 x.frm.t,.int .i64 x.frm.i,ids]
def lnB(x:DLn)(ids:AV):AObj:=⟨true,1,0,.cells (Z2r x ids) 78⟩
def Zjd:List DId->AV
 |[]=>.nslice
 |d::r=>.slice 2 0 (r.length+1) (r.length+1) 2
def Zje:List DId->Z00
 |[]=>[]
 |d::r=>[⟨true,2,0,.cells (Z07 idC (d::r)) 63⟩]
theorem Z8V:∀l:List DId,refsL (Z07 idC l) []=[]
 |[]=>rfl
 |d::l=>Z8V l
theorem ZbM:∀l:List DId,(Z07 idC l).all lit=true
 |[]=>rfl
 |d::l=>ZbM l
theorem bTd:ZeI Y00 57 57=some (63,2,16):=by kernel_rfl
theorem Zio(n:Nat)(w:DLf)(a:List DId)(h:w.l=[]):Z7j n w a=(a,w):=by
 cases n with
 |zero=>rfl
 |succ n=>simp only[Z7j,h]
theorem Zkl(n:Nat)(w:DLf)(a:List DId)(h:w.ok=false):Z7j n w a=(a,w):=by
 cases n with
 |zero=>rfl
 |succ n =>
  simp only[Z7j,h]
  cases w.l<;>rfl
theorem Zkk(n:Nat)(w:DLf)(a:List DId)(s:List UInt8)(l:List (List UInt8))(h:w.l=s::l)(ho:w.ok=true):Z7j (n+1) w a=Z7j n w.did.2 (a++[w.did.1]):=by
 simp only[Z7j,h,ho]
theorem ZlY{m:List Nat}{x:DLn}{b n:Nat}{a1 a2 a3 a4 a5 a6 a7 a8 a9 a10 a11 a12:AV}{ty:TypeId}(hr:refsL [a1,a2,a3,a4,a5,a6,a7,a8,a9,a10,a11,a12] []=[])(hm:m[2]? = some b):BodyGe m (.cells [a1,a2,a3,a4,a5,a6,a7,a8,a9,a10,a11,a12,.slice b 0 n n 2] ty) (.cells [a1,a2,a3,a4,a5,a6,a7,a8,a9,a10,a11,a12,.slice 2 0 n n 2] ty):=by
 refine⟨rfl,Y04 _,λi c2 hc=>?_⟩
 obtain⟨_,_,h3⟩:=Y06 (m:=m) (cs:=[a1,a2,a3,a4,a5,a6,a7,a8,a9,a10,a11,a12]) (rest:=[]) (ty:=ty) (by simp) hr
 by_cases hi:i<12
 · have e1 : ∀ z : AV, [a1, a2, a3, a4, a5, a6, a7, a8, a9, a10, a11, a12, z][i]? = [a1, a2, a3, a4, a5, a6, a7, a8, a9, a10, a11, a12][i]? := fun z => by
    show ([a1,a2,a3,a4,a5,a6,a7,a8,a9,a10,a11,a12]++[z])[i]? = _
    rw[Y0g (by simpa using hi)]
   rw[e1]at hc⊢
   exact h3 i c2 hc
 · by_cases h12:i=12
   · subst h12
     cases hc
     exact⟨_,rfl,Y0j hm rfl rfl (Y04 _) (Y04 _) rfl⟩
   ·rw[List.getElem?_eq_none (by simp;omega)]at hc;cases hc
structure IdS where
 w:DLf
 ids:List DId
theorem ZhF(w:DLf)(hw:LfOK w)(x:DLn)(hx:x.ids=[]):Z7R Y00 runLives.gl 2 74 [.ptr 0 0,.ptr 1 0] (lfH w++[lnB x .nslice]) (.tuple []) (lfH (Z7j (w.next.2.small w.next.1).2.l.length (w.next.2.small w.next.1).2 []).2++[lnB { x with n:=(w.next.2.small w.next.1).1 } (Z3E (Z7j (w.next.2.small w.next.1).2.l.length (w.next.2.small w.next.1).2 []).1)]):=by
 obtain⟨O,hO,⟨p1,p2,p3,-⟩,-⟩:=Z5m (P:=Y00) (gl:=runLives.gl) [Z8Q,Z8I,Zjp] [] rfl
 have qn:∀w,LfOK w->∀X,Z1s [0] X=true->Z02 Y00 O (lfH w++X) 52 [.ptr 0 0]=some (.str w.next.1,lfH w.next.2++X):=λw hw X hX=>p1 ((),w,X) ⟨hw,hX⟩
 have qs:∀w s,s.length<=1048576->∀X,Z1s [0] X=true->Z02 Y00 O (lfH w++X) 68 [.ptr 0 0,.str s]=some (.int .i64 (w.small s).1,lfH (w.small s).2++X):=λw s hs X hX=>p2 (s,w,X) ⟨hs,hX⟩
 have qd:∀w,LfOK w->∀X,Z1s [0] X=true->Z02 Y00 O (lfH w++X) 72 [.ptr 0 0]=some (.agg (idC w.did.1),lfH w.did.2++X):=λw hw X hX=>p3 ((),w,X) ⟨hw,hX⟩
 clear p1 p2 p3
 have f1:=Z0r hw
 have g1:=qn w hw
 have g2:=qs w.next.2 w.next.1 f1.2
 have F2:LfOK (w.next.2.small w.next.1).2:=ZeU f1.1 (Z5E _ _)
 generalize w.next.2.small w.next.1=sm at *
 generalize w.next.1=s1 at *
 generalize w.next.2=w1 at *
 obtain⟨n,w2⟩:=sm
 dsimp only at *
 obtain⟨kk,xn,xv,⟨it,ii⟩,⟨ek,el,eo,er,ew⟩,⟨ft,fi⟩,xi⟩:=x
 obtain⟨l0,ok0⟩:=w
 obtain⟨l1,ok1⟩:=w1
 obtain⟨RI,hRI⟩:∃R,R=Z7j w2.l.length w2 []:=⟨_,rfl⟩
 rw[<- hRI]
 clear qn qs hw f1
 simp only[lfH,Z5C,lnB,Z2r,Y08,Y0b]at g1 g2⊢
 refine Zit follows Z0a (Z4c follows Z0a hO 3) Tryz.func74 rfl (Z6v (isC:=λ_=>true) 3) ?_
 repeat' ((conv=>whnf);first|refine exI (g1 _ rfl) ?_|refine exI (g2 _ rfl) ?_|refine stp ?_|with_reducible apply Z01<;>intro h)
 conv=>whnf
 obtain⟨M,hM⟩:∃M,M=w2.l.length:=⟨_,rfl⟩
 have hMl:=F2.few
 refine⟨IdS,(λs=>LfOK s.w/\Z7j s.w.l.length s.w s.ids=RI/\s.ids.length+s.w.l.length<=M),(λs=>[(0,.ptr 0 0),(1,.ptr 1 0)]),(λs=>lfH s.w++(lnB ⟨kk,n,xv,⟨it,ii⟩,⟨ek,el,eo,er,ew⟩,⟨ft,fi⟩,[]⟩ (Zjd s.ids)::Zje s.ids)),(λs=>s.w.l.length),⟨⟨w2,[]⟩,⟨F2,hRI.symm,by show 0+w2.l.length<=M;omega⟩,?_⟩,?_⟩
 · refine FgLK.mk [0,1] rfl rfl ?_ ⟨hbp,hbp,trivial⟩ rfl
   refine Y01 (Y02 rfl rfl) (Y01 (Y02 rfl rfl) ?_)
   exact wks
 clear hRI g1 g2 F2
 rintro⟨⟨l,ok⟩,ids⟩ ⟨hF,hr,hb⟩
 dsimp only at hF hr hb⊢
 cases l with
 |nil =>
  have hr2:RI=(ids,⟨[],ok⟩):=by rw[<- hr,Zio _ _ _ rfl]
  subst hr2
  cases ids with
  |nil =>
   simp only[lfH,Z5C,lnB,Z2r,Zjd,Zje,Y08,Y0b,List.map_nil,Y0c]
   repeat' ((conv=>whnf);first|refine stp ?_|with_reducible apply Z01<;>intro h)
   conv=>whnf
   exact⟨[],[0,1],rfl,⟨⟨rfl,rfl,rfl,rfl,BodyGe.z (Y06 (rest:=[]) rfl rfl)⟩,⟨rfl,rfl,rfl,rfl,BodyGe.z (Y06 (rest:=[]) rfl rfl)⟩,trivial⟩,rfl,rfl,.inl (Y07 rfl)⟩
  |cons d r =>
   simp only[lfH,Z5C,lnB,Z2r,Zjd,Zje,Y08,Y0b,List.map_nil,Y0c]
   repeat' ((conv=>whnf);first|refine stp ?_|with_reducible apply Z01<;>intro h)
   conv=>whnf
   refine⟨[2],[0,1],rfl,⟨⟨rfl,rfl,rfl,rfl,BodyGe.z (Y06 (rest:=[]) rfl rfl)⟩,⟨rfl,rfl,rfl,rfl,BodyGeZ.snoc (cs:=[.str kk,.int .i64 n,.int .i64 xv,.int .i64 it,.int .i64 ii,.int .i64 ek,.int .i64 el,.int .i64 eo,.int .i64 er,.int .i64 ew,.int .i64 ft,.int .i64 fi]) rfl (WkZ.fz (Z3U (n:=28) rfl (by rw[Z0Y (k:=2) (λ_=>rfl)];rfl) (ZbM (d::r))))⟩,trivial⟩,rfl,rfl,.inl (Y07 rfl)⟩
 |cons s l =>
  cases ok with
  |false =>
   have hr2:RI=(ids,⟨s::l,false⟩):=by rw[<- hr,Zkl _ _ _ rfl]
   subst hr2
   have e1:decide (((l.length+1:Nat):Int)>0)=true:=decide_eq_true (by omega)
   cases ids with
   |nil =>
    simp only[lfH,Z5C,lnB,Z2r,Zjd,Zje,Y08,Y0b,Y0n,Y03]
    repeat' ((conv=>whnf);first|refine stp ?_|with_reducible apply Z01<;>intro h)
    conv=>whnf
    exact⟨[],[0,1],rfl,⟨⟨rfl,rfl,rfl,rfl,BodyGe.z (Y06 (rest:=[]) rfl rfl)⟩,⟨rfl,rfl,rfl,rfl,BodyGe.z (Y06 (rest:=[]) rfl rfl)⟩,trivial⟩,rfl,rfl,.inl (Y07 rfl)⟩
   |cons d r =>
    simp only[lfH,Z5C,lnB,Z2r,Zjd,Zje,Y08,Y0b,Y0n,Y03]
    repeat' ((conv=>whnf);first|refine stp ?_|with_reducible apply Z01<;>intro h)
    conv=>whnf
    refine⟨[2],[0,1],rfl,⟨⟨rfl,rfl,rfl,rfl,BodyGe.z (Y06 (rest:=[]) rfl rfl)⟩,⟨rfl,rfl,rfl,rfl,BodyGeZ.snoc (cs:=[.str kk,.int .i64 n,.int .i64 xv,.int .i64 it,.int .i64 ii,.int .i64 ek,.int .i64 el,.int .i64 eo,.int .i64 er,.int .i64 ew,.int .i64 ft,.int .i64 fi]) rfl (WkZ.fz (Z3U (n:=28) rfl (by rw[Z0Y (k:=2) (λ_=>rfl)];rfl) (ZbM (d::r))))⟩,trivial⟩,rfl,rfl,.inl (Y07 rfl)⟩
  |true =>
   have e1:decide (((l.length+1:Nat):Int)>0)=true:=decide_eq_true (by omega)
   have hr2:Z7j l.length (DLf.mk (s::l) true).did.2 (ids++[(DLf.mk (s::l) true).did.1])=RI:=by rw[<- hr];exact (Zkk _ _ _ s l rfl rfl).symm
   have gd:=qd _ hF
   have hl:=Zmq ⟨s::l,true⟩
   have hF2:LfOK (DLf.mk (s::l) true).did.2:=ZeU (Z0r hF).1 hl
   generalize (DLf.mk (s::l) true).did=dd at *
   obtain⟨⟨dt,di⟩,⟨l2,ok2⟩⟩:=dd
   dsimp only at hl hr2 gd hF2
   have hl:l2=l:=hl
   subst hl
   simp only[Y03]at hb
   clear hr hF qd
   cases ids with
   |nil =>
    simp only[lfH,Z5C,lnB,Z2r,idC,Zjd,Zje,Y08,Y0b,Y0n,Y03]at gd⊢
    repeat' ((conv=>whnf);first|refine exI (gd _ rfl) ?_|refine stp ?_|with_reducible apply Z01<;>intro h)
    conv=>whnf
    refine⟨⟨⟨l2,ok2⟩,[⟨dt,di⟩]⟩,⟨hF2,hr2,by show 1+l2.length<=M;simp at hb;omega⟩,Nat.lt_succ_self _,?_⟩
    (try dsimp only)
    refine FgLK.mk [0,1,3] rfl rfl ?_ ⟨hbp,⟨rfl,rfl,rfl,rfl,ZlY (x:=ln0 []) rfl rfl⟩,hbp,trivial⟩ rfl
    refine Y01 (Y02 rfl rfl) (Y01 (Y02 rfl rfl) ?_)
    exact wks
   |cons d r =>
    simp only[lfH,Z5C,lnB,Z2r,idC,Zjd,Zje,Y08,Y0b,Y0n,Y03]at gd hb⊢
    repeat' ((conv=>whnf);first|refine exI (gd _ rfl) ?_|refine exI (ZdJ bTd (x:=.slice 3 0 1 1 2) (n:=1) (xs:=[.int .i64 dt,.int .i64 di]) (cs:=Z07 idC (d::r)) (len:=r.length+1) rfl rfl rfl (by rw[Z0Y (k:=2) (λ_=>rfl)];rfl) rfl (by decide) (by omega)) ?_|refine stp ?_|with_reducible apply Z01<;>intro h)
    conv=>whnf
    refine⟨⟨⟨l2,ok2⟩,d::(r++[(DId.mk dt di)])⟩,⟨hF2,hr2,by show (r++[DId.mk dt di]).length+1+l2.length<=M;rw[Y05];simp only[Y03,Y0c];omega⟩,Nat.lt_succ_self _,?_⟩
    (try dsimp only)
    have hc:Z07 idC (d::r)++[AV.int .i64 dt,.int .i64 di]=Z07 idC (d::(r++[⟨dt,di⟩])):=by
     rw[show d::(r++[⟨dt,di⟩])=(d::r)++[(⟨dt,di⟩:DId)] from rfl,Z3r];rfl
    have hl:(r++[(⟨dt,di⟩:DId)]).length=r.length+1:=by simp
    rw[hc]
    simp only[Zjd,Zje,hl]
    refine FgLK.mk [0,1,4] rfl rfl ?_ ⟨hbp,⟨rfl,rfl,rfl,rfl,ZlY (x:=ln0 []) rfl rfl⟩,⟨rfl,rfl,rfl,rfl,Y06 (rest:=[]) (by simp) (Z8V _)⟩,trivial⟩ rfl
    refine Y01 (Y02 rfl rfl) (Y01 (Y02 rfl rfl) ?_)
    exact wks
end
end Go.Proofs.YtpcpdlfhcahjgaaGreatDoor.lex

/-
  Texts of this proof, one behind the other (part 7).
-/
import Derived.Test.YtpobjilfhkbhjaaDoorXi6
set_option linter.unusedVariables false
set_option linter.unusedSimpArgs false
set_option maxRecDepth 100000
set_option maxHeartbeats 4000000
open Go.Proofs.Tryd renaming prog → Y00
open Go.Abs.FgL renaming mk → Y01
open List renaming getElem_mem → Y02
open Nat renaming zero_le → Y03
open Bool renaming and_eq_true → Y04
section
namespace Go.Proofs.YtpobjilfhkbhjaaDoor.lex
open Go.Abs Go.RowKit Go.Flat
theorem ZjP:ValOK Y00 runLives.gl 4 [] (.bool true):=by
 intro sn W cargs hg hR ha
 refine ((runLives.knownLives 4 [] [] (.bool true) [] (by kernel_rfl) sn noI W cargs hg hR ha).calls Tryd.func4).mono ?_
 rintro e W' ⟨v,sn',ι',rfl,hv,hs⟩
 cases hv.bool
 exact⟨_,rfl,Stq.ext (Stp.q (k:=0) hR hs),by simp[VR]⟩
def Z7F{gl:Z0n}{f:Nat}{A:List AV}{R:AV}(hb:Z0k Y00 f=true)(hr:refsL A []=[])(h:ValOK Y00 gl f A R):Fam Y00 gl:={ I:=Unit,f:=f,G:=λ_=>True,A:=λ_=>A,R:=λ_=>R,body:=hb,inj:=(λ_ _ _ _ _=>rfl),ok:=(λ_ _=>⟨hr,h⟩) }
theorem ZhG{i:Ins}(h:ltI i=true):sizeL i.ex<=800000:=by
 unfold ltI at h
 simp only[Y04,decide_eq_true_eq]at h
 have key:∀l:List Ex,(l.all λe=>decide (0<=Z1I e 60))=true->sizeL l<=l.length*60:=by
  intro l
  induction l with
  |nil=>intro _;simp[sizeL]
  |cons e l ih =>
   intro h
   simp only[List.all_cons,Y04,decide_eq_true_eq]at h
   have h1:=ih h.2
   have h2:=Z8j e 60 h.1
   simp only[sizeL,List.length_cons]
   omega
 have:=key _ h.2
 omega
theorem ZhJ{us st:Nat->Nat}{nx:Nat->List Nat}{v r:Nat}:r∈Go.Live.liveL us st nx v ↔ r<32/\Go.Live.Lv us st nx r v:=by
 unfold Go.Live.liveL
 rw[List.mem_filter,List.mem_range,Go.Live.lvB_iff]
theorem ZhK{us st:Nat->Nat}{nx:Nat->List Nat}{v:Nat}:(Go.Live.liveL us st nx v).length<=32:=by
 unfold Go.Live.liveL
 refine Nat.le_trans (List.length_filter_le _ _) (by simp)
theorem Zit{l:List Ins}{v r:Nat}:(usU l v).testBit r=true ↔ r∈Zdx l v:=Go.Live.maskL_bit _ _
theorem Ziw{l:List Ins}{v r:Nat}:(stU l v).testBit r=true ↔ Z3q (Z75 l v)=(r:Int):=by
 unfold stU ZkX
 split
 · rw[Nat.testBit_two_pow]
   simp only[decide_eq_true_eq]
   omega
 ·simp;omega
def ilA(regs:Int)(l:List Ins):AObj:=⟨true,0,0,.cells [.int .i64 regs,.rs l.length 6 (inC l)] 24⟩
def ilS(sB:Nat->Bool):AObj:=⟨true,1,0,.cells (arr (λr=>.bool (sB r)) 16) 34⟩
theorem Zc7{a b c':AObj}{f:Nat}(h:Go.Abs.lone f 1 0 [a,b]=true):(Z2o 1 f [a,b]).set 1 c'=[a,c']:=by
 rw[Z67 λi o hi hne=>(Go.Abs.lone_get h hi).elim (λe=>by omega) id]
 rfl
structure Wl (l:List Ins) (at_:Nat) (sB:Nat->Bool):Prop where
 rch:Rch (Z0D l) at_
 live:∀r,Go.Live.Lv (usU l) (stU l) (Z0D l) r at_->sB r=false->Go.Live.Lv (usU l) (stU l) (Z0D l) r 0
theorem Z8h(sB:Nat->Bool){a:List AV}(e:a=arr (λr=>.bool (sB r)) 16){ty:TypeId}:BodyGe [0,1] (.cells a ty) (.cells (arr (λr=>.bool (sB r)) 16) ty):=BodyGe.pre (rest:=[]) (by rw[e,List.append_nil]) (Z57 (λ_=>rfl) _)
theorem Wl.start(l:List Ins):Wl l 0 (λ_=>false):=⟨.zero,λr h _=>h⟩
theorem Wl.used{l:List Ins}{a r:Nat}{sB:Nat->Bool}(h:Wl l a sB)(hr:r∈Zdx l a):Go.Live.Lv (usU l) (stU l) (Z0D l) r a/\(sB r=false->Go.Live.Lv (usU l) (stU l) (Z0D l) r 0):=by
 have h1:Go.Live.Lv (usU l) (stU l) (Z0D l) r a:=.use (Zit.2 hr)
 exact⟨h1,h.live r h1⟩
theorem Wl.next{l:List Ins}{a b:Nat}{sB sB':Nat->Bool}(h:Wl l a sB)(hb:b∈Z0D l a)(hs:∀r,sB' r=false->sB r=false)(hst:∀r:Nat,Z3q (Z75 l a)=r->sB' r=true):Wl l b sB':=by
 refine⟨.next h.rch hb,λr hl hr=>h.live r ?_ (hs r hr)⟩
 refine .next hb hl ?_
 cases e:(stU l a).testBit r with
 |false=>rfl
 |true=>rw[hst r (Ziw.1 e)]at hr;cases hr
theorem Zlf{l:List Ins}{v r:Nat}(h:Go.Live.Lv (usU l) (stU l) (Z0D l) r v):r∈Zdx l v\/∃w∈Z0D l v,Go.Live.Lv (usU l) (stU l) (Z0D l) r w/\Z3q (Z75 l v)≠r:=by
 cases h with
 |use h=>exact .inl (Zit.1 h)
 |next hw hl hs=>exact .inr ⟨_,hw,hl,λe=>by rw[Ziw.2 e]at hs;cases hs⟩
def ZgU(ul:List Nat)(lv:Nat->List Nat)(z:Int)(L:List Nat)(r m:Nat):Bool:=decide (r∈ul) || (L.take m).any λw=>decide (r∈lv w)&&(z != (r:Int))
theorem Zf2{ul:List Nat}{lv:Nat->List Nat}{z:Int}{L:List Nat}{r:Nat}:ZgU ul lv z L r 0=decide (r∈ul):=by simp[ZgU]
theorem Zf3{ul:List Nat}{lv:Nat->List Nat}{z:Int}{L:List Nat}{r m:Nat}(h:m<L.length):ZgU ul lv z L r (m+1)=(ZgU ul lv z L r m || (decide (r∈lv L[m])&&(z != (r:Int)))):=by
 unfold ZgU
 rw[List.take_succ_eq_append_getElem h,List.any_append,Bool.or_assoc]
 simp
theorem Zhy{ul:List Nat}{lv:Nat->List Nat}{z:Int}{L:List Nat}{r:Nat}(h:r∈ul\/∃w∈L,r∈lv w/\z≠r):ZgU ul lv z L r L.length=true:=by
 unfold ZgU
 rw[List.take_length]
 rcases h with h|⟨w,hw,h1,h2⟩
 ·simp[h]
 · rw[Bool.or_eq_true,List.any_eq_true]
   exact .inr ⟨w,hw,by simp[h1,h2]⟩
section
attribute [local irreducible] Go.Abs.frcHW Go.Abs.frcNP
theorem il_law(c:Cd)(hok:okC c)(ws:List Int)(hws:ws.length<=9223372036854775807):ValOK Y00 runLives.gl 3 [c.av,rsI ws] (.bool true):=by
 have a1:=ZjP
 have a2:=Zfg (gl:=runLives.gl) c hok 80
 have a3:=Z41 c hok
 cases hlt:ltC c 80 with
 |false =>
  rw[hlt]at a2
  obtain⟨regs,l⟩:=c
  simp only[Cd.av,rsI]at *
  obtain⟨O,hO,p1,p2,-⟩:=fams (P:=Y00) (gl:=runLives.gl) [Z7F (by kernel_rfl) rfl a1,Z7F (by kernel_rfl) rfl a2] rfl
  have q1:∀H,Z0e Y00 O H 4 []=some (.bool true,H):=p1 () trivial
  have q2:∀H,Z0e Y00 O H 5 [.agg [.int .i64 regs,.rs l.length 6 (inC l)],.int .i64 80]=some (.bool false,H):=p2 () trivial
  clear p1 p2 a1 a2 a3
  refine Z0J follows Z11 hO Tryd.func3 rfl ?_
  show Z0s _ _
  rw[Z09]
  generalize hA:AV.agg [.int .i64 regs,.rs l.length 6 (inC l)]=A0
  generalize hB:AV.rs ws.length 1 (ksC ws)=B0
  conv in (tmk _ _)=>reduce
  subst hA hB
  repeat' ((conv=>whnf);first|(refine Z0j (q1 _) ?_)|(refine Z0j (q2 _) ?_)|(with_reducible refine Z2u ZlU ?_)|(with_reducible refine Z2v (nb0 _ _) ?_)|(with_reducible refine Z0g ?_)|(with_reducible refine Z0i ?_)|refine stp ?_|with_reducible apply Z04<;>intro h)
  all_goals rfl
 |true =>
 rw[hlt]at a2
 by_cases hc:ZgV c=0
 case' neg =>
  have hne:(ZgV c != 0)=true:=by simpa using hc
  generalize ZgV c=kz at *
  obtain⟨regs,l⟩:=c
  simp only[Cd.av,rsI]at *
  obtain⟨O,hO,p1,p2,p3,-⟩:=fams (P:=Y00) (gl:=runLives.gl) [Z7F (by kernel_rfl) rfl a1,Z7F (by kernel_rfl) rfl a2,Z7F (by kernel_rfl) rfl a3] rfl
  have q1:∀H,Z0e Y00 O H 4 []=some (.bool true,H):=p1 () trivial
  have q2:∀H,Z0e Y00 O H 5 [.agg [.int .i64 regs,.rs l.length 6 (inC l)],.int .i64 80]=some (.bool true,H):=p2 () trivial
  have q3:∀H,Z0e Y00 O H 6 [.agg [.int .i64 regs,.rs l.length 6 (inC l)]]=some (.int .i64 kz,H):=p3 () trivial
  clear p1 p2 p3 a1 a2 a3 hc
  refine Z0J follows Z11 hO Tryd.func3 rfl ?_
  show Z0s _ _
  rw[Z09]
  generalize hA:AV.agg [.int .i64 regs,.rs l.length 6 (inC l)]=A0
  generalize hB:AV.rs ws.length 1 (ksC ws)=B0
  conv in (tmk _ _)=>reduce
  subst hA hB
  repeat' ((conv=>whnf);first|(refine Z0j (q1 _) ?_)|(refine Z0j (q2 _) ?_)|(refine Z0j (q3 _) ?_)|(with_reducible refine Z2u ZlU ?_)|(with_reducible refine Z2v (nb0 _ _) ?_)|(with_reducible refine Z0g ?_)|(with_reducible refine Z0i ?_)|refine stp ?_|with_reducible apply Z04<;>intro h)
  all_goals rfl
 have hfine:=Z9f hc
 have hg:=hfine.good
 have hU:=λv (hv:v<c.ins.length)=>hfine.uses hv
 have hS:=λv (hv:v<c.ins.length)=>hfine.sets hv
 have hsz:∀i∈c.ins,sizeL i.ex<=800000:=λi hi=>by
  unfold ltC at hlt
  simp only[Y04,decide_eq_true_eq]at hlt
  exact ZhG (List.all_eq_true.1 hlt.2 i hi)
 have hl80:c.ins.length<=80:=by
  unfold ltC at hlt
  simp only[Y04,decide_eq_true_eq]at hlt
  omega
 have a4:=ZhL c hok hc hsz
 have a5:=Zbe c hok hc
 have a6:=Zhs c hok hc
 rw[hc]at a3
 obtain⟨regs,l⟩:=c
 simp only[Cd.av,rsI]at *
 have hp:=hg.pos
 have hx2:=hok.2
 simp only at hx2
 obtain⟨O,hO,p1,p2,p3,p4,p5,p6,p7,p8,p9,p10,-⟩:=fams (P:=Y00) (gl:=runLives.gl) [Z7F (by kernel_rfl) rfl a1,Z7F (by kernel_rfl) rfl a2,Z7F (by kernel_rfl) rfl a3,Z7F (by kernel_rfl) rfl a4,Z7F (by kernel_rfl) rfl a5,
  { I:=Nat,f:=12,G:=λa=>a<l.length,A:=λa=>[.agg [.int .i64 regs,.rs l.length 6 (inC l)],.int .i64 a],R:=λa=>Z3D (Z0D l a),body:=(by kernel_rfl),inj:=(λi j _ _ h=>by simp only[List.cons.injEq,AV.int.injEq,and_true,true_and]at h;rw[show i=j by omega]),ok:=λa ha=>⟨rfl,a6 a ha⟩ },
  { I:=Ins,f:=9,G:=λi=>i∈l,A:=λi=>[.agg (Z0E i)],R:=λi=>Z3D (Z1Z i),body:=(by kernel_rfl),inj:=(λi j _ _ h=>by simp only[List.cons.injEq,AV.agg.injEq,and_true]at h;rw[Z2Q h]),ok:=λi hi=>⟨rfl,ZbZ i (hx2 i hi).2 (hx2 i hi).1 (hsz i hi)⟩ },
  { I:=Ins,f:=11,G:=λi=>True,A:=λi=>[.agg (Z0E i)],R:=λi=>.int .i64 (Z3q i),body:=(by kernel_rfl),inj:=(λi j _ _ h=>by simp only[List.cons.injEq,AV.agg.injEq,and_true]at h;rw[Z2Q h]),ok:=λi hi=>⟨rfl,Zch i⟩ },
  { I:=Int×Nat,f:=13,G:=λp=>0<p.2/\p.2<=80,A:=λp=>[.int .i64 p.1,.int .i64 p.2],R:=λp=>.int .i64 (Z5X p.1 p.2),body:=(by kernel_rfl),inj:=(λi j _ _ h=>by simp only[List.cons.injEq,AV.int.injEq,and_true,true_and]at h;rw[h.1,show i.2=j.2 by omega]),ok:=λp hp=>⟨rfl,Zjr p.1 p.2 hp.1 (by omega)⟩ },
  { I := List Nat × Nat, f := 10, G := fun p => p.1.length <= 9223372036854775807, A := fun p => [Z3D p.1, .int .i64 p.2], R := fun p => .bool (decide (p.2 ∈ p.1)), body := (by kernel_rfl), inj := (fun i j _ _ h => by
    simp only[Z3D,List.cons.injEq,AV.int.injEq,AV.rs.injEq,and_true,true_and]at h
    rw[ZeV h.1.2,show i.2=j.2 by omega]),ok:=λp hp=>⟨rfl,Zln p.1 p.2 hp⟩ }] rfl
 have q1:∀H,Z0e Y00 O H 4 []=some (.bool true,H):=p1 () trivial
 have q2:∀H,Z0e Y00 O H 5 [.agg [.int .i64 regs,.rs l.length 6 (inC l)],.int .i64 80]=some (.bool true,H):=p2 () trivial
 have q3:∀H,Z0e Y00 O H 6 [.agg [.int .i64 regs,.rs l.length 6 (inC l)]]=some (.int .i64 0,H):=p3 () trivial
 have q4:∀H,Z0e Y00 O H 7 [.agg [.int .i64 regs,.rs l.length 6 (inC l)]]=some (.rs l.length 1 (arr (λv=>Z3D (Go.Live.liveL (usU l) (stU l) (Z0D l) v)) l.length),H):=p4 () trivial
 have q5:∀H,Z0e Y00 O H 8 [.agg [.int .i64 regs,.rs l.length 6 (inC l)]]=some (.rs l.length 1 (arr (λv=>.bool (Zhh (Z0D l) v)) l.length),H):=p5 () trivial
 have q6:∀a,a<l.length->∀H,Z0e Y00 O H 12 [.agg [.int .i64 regs,.rs l.length 6 (inC l)],.int .i64 a]=some (Z3D (Z0D l a),H):=p6
 have q7:∀i,i∈l->∀H,Z0e Y00 O H 9 [.agg (Z0E i)]=some (Z3D (Z1Z i),H):=p7
 have q8:∀i H,Z0e Y00 O H 11 [.agg (Z0E i)]=some (.int .i64 (Z3q i),H):=λi=>p8 i trivial
 have q9:∀x m,0<m->m<=80->∀H,Z0e Y00 O H 13 [.int .i64 x,.int .i64 (m:Nat)]=some (.int .i64 (Z5X x m),H):=λx m h1 h2=>p9 (x,m) ⟨h1,h2⟩
 have q10:∀L r,L.length<=9223372036854775807->∀H,Z0e Y00 O H 10 [Z3D L,.int .i64 (r:Nat)]=some (.bool (decide (r∈L)),H):=λL r h=>p10 (L,r) h
 clear p1 p2 p3 p4 p5 p6 p7 p8 p9 p10 a1 a2 a3 a4 a5 a6
 have hr0:tk 1 ((arr (λv=>.bool (Zhh (Z0D l) v)) l.length).drop (0*1))=some [.bool true]:=by
  rw[Z5R _ hp rfl,Z6b.2 .zero]
 have hl0:((l.length:Int) != (l.length:Int))=false:=by simp
 have hxw:∀k,k<ws.length->tk 1 ((ksC ws).drop (k*1))=some [.int .i64 (ws.getD k 0)]:=λk h=>by have:=Zlj ws k h;rwa [Nat.zero_add]at this
 have hxL:∀v,v<l.length->tk 1 ((arr (λv=>Z3D (Go.Live.liveL (usU l) (stU l) (Z0D l) v)) l.length).drop (v*1))=some [Z3D (Go.Live.liveL (usU l) (stU l) (Z0D l) v)]:=λv hv=>Z5R _ hv (by omega)
 have hxR:∀v,v<l.length->tk 1 ((arr (λv=>.bool (Zhh (Z0D l) v)) l.length).drop (v*1))=some [.bool (Zhh (Z0D l) v)]:=λv hv=>Z5R _ hv (by omega)
 have hm:=λv r=>ZhJ (us:=usU l) (st:=stU l) (nx:=Z0D l) (v:=v) (r:=r)
 have hlen:=λv=>ZhK (us:=usU l) (st:=stU l) (nx:=Z0D l) (v:=v)
 have hul8:∀i∈l,(Z1Z i).length<=800000:=λi hi=>Nat.le_trans (Z6v _) (Nat.le_trans (ursL_len _) (hsz _ hi))
 generalize ksC ws=WC at *
 generalize arr (λv=>Z3D (Go.Live.liveL (usU l) (stU l) (Z0D l) v)) l.length=LV at *
 generalize arr (λv=>.bool (Zhh (Z0D l) v)) l.length=RV at *
 generalize Go.Live.liveL (usU l) (stU l) (Z0D l)=lv at *
 simp only[Z3D,Z0E]at *
 refine Z0J follows Z11 hO Tryd.func3 rfl ?_
 show Z0s _ _
 rw[Z09]
 generalize hA:AV.agg [.int .i64 regs,.rs l.length 6 (inC l)]=A0
 generalize hB:AV.rs ws.length 1 WC=B0
 conv in (tmk _ _)=>reduce
 subst hA hB
 repeat' ((conv=>whnf);first|(refine Z0j (q1 _) ?_)|(refine Z0j (q2 _) ?_)|(refine Z0j (q3 _) ?_)|(refine Z0j (q4 _) ?_)|(refine Z0j (q5 _) ?_)|refine exI hr0 ?_|(with_reducible refine ixJ 0 rfl ?_ ?_;focus omega)|(with_reducible refine Z2u ZlU ?_)|(with_reducible refine Z2v (nb0 _ _) ?_)|(with_reducible refine Z2u (Znb _) ?_)|(with_reducible refine Z2v (nb1 _ _ _) ?_)|(with_reducible refine Z0g ?_)|(with_reducible refine Z0i ?_)|refine stp ?_|with_reducible apply Z04<;>intro h)
 conv=>whnf
 refine⟨Nat×Nat×(Nat->Bool),(λs=>s.1<=ws.length/\Wl l s.2.1 s.2.2),(λs=>[(1,.rs ws.length 1 WC),(2,.ptr 0 0),(5,.rs l.length 1 LV),(6,.rs l.length 1 RV),(7,.ptr 1 0),(8,.int .i64 (s.2.1:Nat)),(9,.int .i64 (s.1:Nat))]),(λs=>[ilA regs l,ilS s.2.2]),(λs=>ws.length-s.1),⟨(0,0,λ_=>false),⟨Y03 _,Wl.start l⟩,?_⟩,?_⟩
 · refine Y01 [0,1] rfl ?_ ⟨hbp,⟨rfl,rfl,rfl,rfl,Z8h _ rfl⟩,trivial⟩ rfl
   exact wks
 rintro⟨k,a,sB⟩ ⟨hk,hW⟩
 dsimp only at hk hW⊢
 have ha:a<l.length:=hg.lt8 hW.rch
 by_cases hlt:k<ws.length/\k<200
 · obtain⟨hk1,hk2⟩:=hlt
   have e1:decide ((k:Int)<(ws.length:Int))=true:=by simpa using hk1
   have e2:decide ((k:Int)<200)=true:=by simp;omega
   have hx6:=in6 l a ha
   have hmem:l[a]∈l:=Y02 ha
   have q7a:=q7 l[a] hmem
   have q8a:=q8 l[a]
   have q6a:=q6 a ha
   have hUa:=hU a ha
   have hSa:=hS a ha
   have huse:=λr=>hW.used (r:=r)
   have hnxt:=λb sB'=>hW.next (b:=b) (sB':=sB')
   have hnlt:=λw=>hg.nx8 ha (w:=w)
   have hnx2:=Z6W l a
   have hinsF:=Z2e ha
   have hua:Zdx l a=Z1Z l[a]:=by unfold Zdx;rw[hinsF]
   rw[hua]at huse hUa
   rw[hinsF]at hSa hnxt
   have hxL0:=hxL 0 hp
   have hxLa:=hxL a ha
   have hl0':=hlen 0
   have hla:=hlen a
   have hin0:∀r∈Z1Z l[a],sB r=false->decide (r∈lv 0)=true:=λr hr hs=>by
    simp only[decide_eq_true_eq]
    exact (hm 0 r).2 ⟨by have:=hUa r hr;omega,(huse r hr).2 hs⟩
   have hina:∀r∈Z1Z l[a],decide (r∈lv a)=true:=λr hr=>by
    simp only[decide_eq_true_eq]
    exact (hm a r).2 ⟨by have:=hUa r hr;omega,(huse r hr).1⟩
   generalize hz:Z3q l[a]=z at *
   have hulen:=hul8 _ hmem
   generalize Z1Z l[a]=ul at *
   generalize l[a]=y at *
   obtain⟨yk,yr,yl,yo,yt,yx⟩:=y
   dsimp only at *
   unfold ilA ilS
   show Z0s _ _
   rw[Z09]
   generalize hK:((a:Nat):Int)=av at *
   generalize hK2:((k:Nat):Int)=kv at *
   conv in (Z2k _ _)=>reduce
   subst hK hK2
   repeat' ((conv=>whnf);first|(refine Z0j (q7a _) ?_)|refine exI hx6 ?_|(with_reducible refine ixJ a rfl ?_ ?_;focus omega)|(with_reducible refine Z0g ?_)|(with_reducible refine Z0i ?_)|refine stp ?_|with_reducible apply Z04<;>intro h)
   conv=>whnf
   refine⟨Nat,(λi=>i<=ul.length),(λi=>[(1,.rs ws.length 1 WC),(2,.ptr 0 0),(5,.rs l.length 1 LV),(6,.rs l.length 1 RV),(7,.ptr 1 0),(8,.int .i64 (a:Nat)),(9,.int .i64 (k:Nat)),(10,.rs ul.length 1 (nis ul)),(11,.int .i64 (i:Nat))]),(λi=>[ilA regs l,ilS sB]),(λi=>ul.length-i),⟨0,Y03 _,?_⟩,?_⟩
   · refine Y01 [0,1] rfl ?_ ⟨hbp,⟨rfl,rfl,rfl,rfl,Z8h _ rfl⟩,trivial⟩ rfl
     exact wks
   intro i hi
   dsimp only at hi⊢
   by_cases hit:i<ul.length
   · have e3:decide ((i:Int)<(ul.length:Int))=true:=by simpa using hit
     have hxu:=Z3n ul hit (off:=i*1) (by omega)
     have hin:ul[i]∈ul:=Y02 hit
     generalize ul[i]=x at *
     have hx16:=hUa x hin
     have hs16:=Z5R (λr=>AV.bool (sB r)) hx16 (off:=0+x*1) (by omega)
     have qa:=q10 (lv a) x (by omega)
     rw[hina x hin]at qa
     unfold ilA ilS
     cases hsx:sB x with
     |true =>
      rw[hsx]at hs16
      show Z0s _ _
      rw[Z09]
      generalize hK:((a:Nat):Int)=av at *
      generalize hK2:((k:Nat):Int)=kv at *
      generalize hK3:((i:Nat):Int)=iv at *
      conv in (Z2k _ _)=>reduce
      subst hK hK2 hK3
      repeat' ((conv=>whnf);first|(refine Z0j (qa _) ?_)|refine exI hxu ?_|refine exI hs16 ?_|refine exI hxLa ?_|(with_reducible refine ixJ x rfl ?_ ?_;focus omega)|(with_reducible refine ixJ i rfl ?_ ?_;focus omega)|(with_reducible refine ixJ a rfl ?_ ?_;focus omega)|(with_reducible refine Z0g ?_)|(with_reducible refine Z0i ?_)|refine stp ?_|with_reducible apply Z04<;>intro h)
      conv=>whnf
      refine⟨i+1,hit,by show ul.length-(i+1)<ul.length-i;omega,?_⟩
      refine Y01 [0,1] rfl ?_ ⟨hbp,⟨rfl,rfl,rfl,rfl,Z8h _ rfl⟩,trivial⟩ rfl
      exact wks
     |false =>
      rw[hsx]at hs16
      have q0:=q10 (lv 0) x (by omega)
      rw[hin0 x hin hsx]at q0
      show Z0s _ _
      rw[Z09]
      generalize hK:((a:Nat):Int)=av at *
      generalize hK2:((k:Nat):Int)=kv at *
      generalize hK3:((i:Nat):Int)=iv at *
      conv in (Z2k _ _)=>reduce
      subst hK hK2 hK3
      repeat' ((conv=>whnf);first|(refine Z0j (qa _) ?_)|(refine Z0j (q0 _) ?_)|refine exI hxu ?_|refine exI hs16 ?_|refine exI hxLa ?_|refine exI hxL0 ?_|(with_reducible refine ixJ x rfl ?_ ?_;focus omega)|(with_reducible refine ixJ i rfl ?_ ?_;focus omega)|(with_reducible refine ixJ a rfl ?_ ?_;focus omega)|(with_reducible refine ixJ 0 rfl ?_ ?_;focus omega)|(with_reducible refine Z0g ?_)|(with_reducible refine Z0i ?_)|refine stp ?_|with_reducible apply Z04<;>intro h)
      conv=>whnf
      refine⟨i+1,hit,by show ul.length-(i+1)<ul.length-i;omega,?_⟩
      refine Y01 [0,1] rfl ?_ ⟨hbp,⟨rfl,rfl,rfl,rfl,Z8h _ rfl⟩,trivial⟩ rfl
      exact wks
   · have e3:decide ((i:Int)<(ul.length:Int))=false:=by simpa using hit
     have hi2:i=ul.length:=by omega
     subst hi2
     generalize hLL:Z0D l a=L at *
     by_cases hz0:0<=z
     · obtain⟨r,rfl⟩:∃r:Nat,z=r:=⟨z.toNat,by omega⟩
       have hr16:r<16:=by omega
       have e4:decide ((r:Int) >= 0)=true:=by simp
       have hst:=Z7p (λr=>AV.bool (sB r)) (.bool true) hr16 (off:=0+r*1) (by omega)
       have hst:spl (arr (λr=>AV.bool (sB r)) 16) (0+r*1) [.bool true]=some (arr (λx=>AV.bool (upd sB r true x)) 16):=by
        rw[hst];congr 2;funext x;by_cases e:x=r
        ·subst e;simp only[Z08]
        ·simp only[Z07 e]
       unfold ilA ilS
       cases hL:L with
       |nil =>
        rw[hL]at q6a
        simp only[nis,List.map_nil,List.length_nil]at q6a
        show Z0s _ _
        rw[Z09]
        generalize hK:((a:Nat):Int)=av at *
        generalize hK2:((k:Nat):Int)=kv at *
        conv in (Z2k _ _)=>reduce
        subst hK hK2
        repeat' ((conv=>whnf);first|(refine Z0j (q8a _) ?_)|(refine Z7J hst (Zc7 rfl) ?_)|(with_reducible refine ixJ r rfl ?_ ?_;focus omega)|(refine Z0j (q6a _) ?_)|refine exI hx6 ?_|(with_reducible refine ixJ a rfl ?_ ?_;focus omega)|(with_reducible refine ixJ k rfl ?_ ?_;focus omega)|(with_reducible refine Z0g ?_)|(with_reducible refine Z0i ?_)|refine stp ?_|with_reducible apply Z04<;>intro h)
        conv=>whnf
        refine⟨Nat,(λi=>i<=l.length),(λi=>[(2,.ptr 0 0),(5,.rs l.length 1 LV),(13,.int .i64 (i:Nat))]),(λi=>[ilA regs l]),(λi=>l.length-i),⟨0,Y03 _,?_⟩,?_⟩
        · refine Y01 [0] rfl ?_ ⟨hbp,trivial⟩ rfl
          exact wks
        intro i hi
        dsimp only at hi⊢
        by_cases hit:i<l.length
        · have f1:decide ((i:Int)<(l.length:Int))=true:=by simpa using hit
          have g6:=in6 l i hit
          have hmem:=Y02 hit
          have q7i:=q7 l[i] hmem
          have q8i:=q8 l[i]
          have q6i:=q6 i hit
          have hwhy:=λr=>Zlf (l:=l) (v:=i) (r:=r)
          have hnlt:=λw=>hg.nx8 hit (w:=w)
          have hnx2:=Z6W l i
          have hinsF:=Z2e hit
          have hSi:=hS i hit
          have hua:Zdx l i=Z1Z l[i]:=by unfold Zdx;rw[hinsF]
          have hulen:=hul8 _ hmem
          rw[hua,hinsF]at hwhy
          rw[hinsF]at hSi
          have hxi:=hxL i hit
          have hmi:=hm i
          have hli:=hlen i
          generalize hz:Z3q l[i]=z at *
          generalize Z1Z l[i]=ul at *
          generalize l[i]=y at *
          generalize Z0D l i=L at *
          obtain⟨yk,yr,yl,yo,yt,yx⟩:=y
          dsimp only at *
          unfold ilA
          show Z0s _ _
          rw[Z09]
          generalize hK:((i:Nat):Int)=av at *
          conv in (Z2k _ _)=>reduce
          subst hK
          repeat' ((conv=>whnf);first|(refine Z0j (q6i _) ?_)|(with_reducible refine Z0g ?_)|(with_reducible refine Z0i ?_)|refine stp ?_|with_reducible apply Z04<;>intro h)
          conv=>whnf
          refine⟨Nat,(λk=>k<=(lv i).length),(λk=>[(2,.ptr 0 0),(5,.rs l.length 1 LV),(13,.int .i64 (i:Nat)),(14,.rs L.length 1 (nis L)),(15,.int .i64 (k:Nat))]),(λk=>[ilA regs l]),(λk=>(lv i).length-k),⟨0,Y03 _,?_⟩,?_⟩
          · refine Y01 [0] rfl ?_ ⟨hbp,trivial⟩ rfl
            exact wks
          intro k hk
          dsimp only at hk⊢
          by_cases hkt:k<(lv i).length
          · have f2:decide ((k:Int)<((lv i).length:Int))=true:=by simpa using hkt
            have hxr:=Z3n (lv i) hkt (off:=k*1) (by omega)
            have hin:(lv i)[k]∈lv i:=Y02 hkt
            generalize (lv i)[k]=r at *
            have hr:=(hmi r).1 hin
            have hwr:=hwhy r hr.2
            have qu:=q10 ul r (by omega)
            unfold ilA
            show Z0s _ _
            rw[Z09]
            generalize hK:((i:Nat):Int)=av at *
            generalize hK2:((k:Nat):Int)=kv at *
            generalize hN:nis L=nN at *
            conv in (Z2k _ _)=>reduce
            subst hK hK2 hN
            repeat' ((conv=>whnf);first|(refine Z0j (q7i _) ?_)|(refine Z0j (qu _) ?_)|refine exI g6 ?_|refine exI hxi ?_|refine exI hxr ?_|(with_reducible refine ixJ k rfl ?_ ?_;focus omega)|(with_reducible refine ixJ i rfl ?_ ?_;focus omega)|(with_reducible refine Z0g ?_)|(with_reducible refine Z0i ?_)|refine stp ?_|with_reducible apply Z04<;>intro h)
            conv=>whnf
            refine⟨Nat,(λm=>m<=L.length),(λm=>[(2,.ptr 0 0),(5,.rs l.length 1 LV),(13,.int .i64 (i:Nat)),(14,.rs L.length 1 (nis L)),(15,.int .i64 (k:Nat)),(16,.int .i64 (r:Nat)),(17,.bool (ZgU ul lv z L r m)),(18,.int .i64 (m:Nat))]),(λm=>[ilA regs l]),(λm=>L.length-m),⟨0,Y03 _,?_⟩,?_⟩
            · dsimp only
              rw[Zf2]
              refine Y01 [0] rfl ?_ ⟨hbp,trivial⟩ rfl
              exact wks
            intro m hmL
            dsimp only at hmL⊢
            by_cases hmt:m<L.length
            · have f3:decide ((m:Int)<(L.length:Int))=true:=by simpa using hmt
              have hsu:=Zf3 (ul:=ul) (lv:=lv) (z:=z) (r:=r) hmt
              have hxm:=Z3n L hmt (off:=m*1) (by omega)
              have hwn:=hnlt L[m] (Y02 hmt)
              generalize L[m]=w at *
              have hxw2:=hxL w hwn
              have hlw:=hlen w
              have qw:=q10 (lv w) r (by omega)
              unfold ilA
              cases hB:ZgU ul lv z L r m with
              |true =>
               rw[hB,Bool.true_or]at hsu
               show Z0s _ _
               rw[Z09]
               generalize hK:((i:Nat):Int)=av at *
               generalize hK2:((k:Nat):Int)=kv at *
               generalize hK3:((m:Nat):Int)=mv at *
               generalize hK4:((r:Nat):Int)=rv at *
               generalize hN:nis L=nN at *
               conv in (Z2k _ _)=>reduce
               subst hK hK2 hK3 hK4 hN
               repeat' ((conv=>whnf);first|(with_reducible refine Z0g ?_)|(with_reducible refine Z0i ?_)|refine stp ?_|with_reducible apply Z04<;>intro h)
               conv=>whnf
               refine⟨m+1,hmt,by show L.length-(m+1)<L.length-m;omega,?_⟩
               dsimp only
               rw[hsu]
               refine Y01 [0] rfl ?_ ⟨hbp,trivial⟩ rfl
               exact wks
              |false =>
               rw[hB,Bool.false_or]at hsu
               cases hB1:decide (r∈lv w) with
               |false =>
                rw[hB1]at qw
                rw[hB1,Bool.false_and]at hsu
                show Z0s _ _
                rw[Z09]
                generalize hK:((i:Nat):Int)=av at *
                generalize hK2:((k:Nat):Int)=kv at *
                generalize hK3:((m:Nat):Int)=mv at *
                generalize hK4:((r:Nat):Int)=rv at *
                generalize hN:nis L=nN at *
                conv in (Z2k _ _)=>reduce
                subst hK hK2 hK3 hK4 hN
                repeat' ((conv=>whnf);first|(refine Z0j (qw _) ?_)|refine exI hxw2 ?_|refine exI hxm ?_|(with_reducible refine ixJ w rfl ?_ ?_;focus omega)|(with_reducible refine ixJ m rfl ?_ ?_;focus omega)|(with_reducible refine Z0g ?_)|(with_reducible refine Z0i ?_)|refine stp ?_|with_reducible apply Z04<;>intro h)
                conv=>whnf
                refine⟨m+1,hmt,by show L.length-(m+1)<L.length-m;omega,?_⟩
                dsimp only
                rw[hsu]
                refine Y01 [0] rfl ?_ ⟨hbp,trivial⟩ rfl
                exact wks
               |true =>
                rw[hB1]at qw
                rw[hB1,Bool.true_and]at hsu
                show Z0s _ _
                rw[Z09]
                generalize hK:((i:Nat):Int)=av at *
                generalize hK2:((k:Nat):Int)=kv at *
                generalize hK3:((m:Nat):Int)=mv at *
                generalize hK4:((r:Nat):Int)=rv at *
                generalize hN:nis L=nN at *
                conv in (Z2k _ _)=>reduce
                subst hK hK2 hK3 hK4 hN
                repeat' ((conv=>whnf);first|(refine Z0j (qw _) ?_)|(refine Z0j (q8i _) ?_)|refine exI g6 ?_|refine exI hxw2 ?_|refine exI hxm ?_|(with_reducible refine ixJ w rfl ?_ ?_;focus omega)|(with_reducible refine ixJ m rfl ?_ ?_;focus omega)|(with_reducible refine ixJ i rfl ?_ ?_;focus omega)|(with_reducible refine Z0g ?_)|(with_reducible refine Z0i ?_)|refine stp ?_|with_reducible apply Z04<;>intro h)
                conv=>whnf
                refine⟨m+1,hmt,by show L.length-(m+1)<L.length-m;omega,?_⟩
                dsimp only
                rw[hsu]
                refine Y01 [0] rfl ?_ ⟨hbp,trivial⟩ rfl
                exact wks
            · have f3:decide ((m:Int)<(L.length:Int))=false:=by simpa using hmt
              have hall:ZgU ul lv z L r m=true:=by
               have:m=L.length:=by omega
               subst this
               exact Zhy (hwr.imp id λ⟨w,hw,h1,h2⟩=>⟨w,hw,(hm w r).2 ⟨hr.1,h1⟩,h2⟩)
              unfold ilA
              rw[hall]
              show Z0s _ _
              rw[Z09]
              generalize hK:((i:Nat):Int)=av at *
              generalize hK2:((k:Nat):Int)=kv at *
              generalize hK3:((m:Nat):Int)=mv at *
              generalize hK4:((r:Nat):Int)=rv at *
              generalize hN:nis L=nN at *
              conv in (Z2k _ _)=>reduce
              subst hK hK2 hK3 hK4 hN
              repeat' ((conv=>whnf);first|(with_reducible refine Z0g ?_)|(with_reducible refine Z0i ?_)|refine stp ?_|with_reducible apply Z04<;>intro h)
              conv=>whnf
              refine⟨k+1,hkt,by show (lv i).length-(k+1)<(lv i).length-k;omega,?_⟩
              refine Y01 [0] rfl ?_ ⟨hbp,trivial⟩ rfl
              exact wks
          · have f2:decide ((k:Int)<((lv i).length:Int))=false:=by simpa using hkt
            unfold ilA
            show Z0s _ _
            rw[Z09]
            generalize hK:((i:Nat):Int)=av at *
            generalize hK2:((k:Nat):Int)=kv at *
            generalize hN:nis L=nN at *
            conv in (Z2k _ _)=>reduce
            subst hK hK2 hN
            repeat' ((conv=>whnf);first|refine exI hxi ?_|(with_reducible refine ixJ i rfl ?_ ?_;focus omega)|(with_reducible refine Z0g ?_)|(with_reducible refine Z0i ?_)|refine stp ?_|with_reducible apply Z04<;>intro h)
            conv=>whnf
            refine⟨i+1,hit,by show l.length-(i+1)<l.length-i;omega,?_⟩
            refine Y01 [0] rfl ?_ ⟨hbp,trivial⟩ rfl
            exact wks
        · have f1:decide ((i:Int)<(l.length:Int))=false:=by simpa using hit
          unfold ilA
          show Z0s _ _
          rw[Z09]
          generalize hK:((i:Nat):Int)=av at *
          conv in (Z2k _ _)=>reduce
          subst hK
          repeat' ((conv=>whnf);first|(with_reducible refine Z0g ?_)|(with_reducible refine Z0i ?_)|refine stp ?_|with_reducible apply Z04<;>intro h)
          all_goals rfl
       |cons w0 ws0 =>
        rw[hL]at q6a hnxt hnlt hnx2
        obtain⟨p,hpz,hpl⟩:∃p:Nat,Z5X (ws.getD k 0) (w0::ws0).length=(p:Int)/\p<(w0::ws0).length:=by
         have:=Z8X (ws.getD k 0) (m:=(w0::ws0).length) (by simp)
         exact⟨(Z5X (ws.getD k 0) (w0::ws0).length).toNat,by omega,by omega⟩
        have q9a:=q9 (ws.getD k 0) (w0::ws0).length (by simp) (by omega)
        rw[hpz]at q9a
        have hxl:=Z3n (w0::ws0) hpl (off:=p*1) (by omega)
        have hbm:(w0::ws0)[p]∈w0::ws0:=Y02 hpl
        have hwk:=hxw k hk1
        have e5:(((w0::ws0).length:Int)==0)=false:=by simp<;>omega
        generalize (w0::ws0)[p]=b at *
        generalize ws.getD k 0=wz at *
        have hb:=hnlt b hbm
        have hW2:=hnxt b (upd sB r true) hbm (λx h=>by
         by_cases e:x=r
         ·subst e;rw[Z08]at h;cases h
         ·rwa [Z07 e]at h) (λx e=>by rw[show x=r by omega,Z08])
        have hxb:=hxR b hb
        rw[Z6b.2 hW2.rch]at hxb
        generalize w0::ws0=L1 at *
        show Z0s _ _
        rw[Z09]
        generalize hK:((a:Nat):Int)=av at *
        generalize hK2:((k:Nat):Int)=kv at *
        conv in (Z2k _ _)=>reduce
        subst hK hK2
        repeat' ((conv=>whnf);first|(refine Z0j (q8a _) ?_)|(refine Z7J hst (Zc7 rfl) ?_)|(with_reducible refine ixJ r rfl ?_ ?_;focus omega)|(refine Z0j (q6a _) ?_)|(refine Z0j (q9a _) ?_)|refine exI hxl ?_|refine exI hwk ?_|refine exI hxb ?_|(with_reducible refine ixJ p rfl ?_ ?_;focus omega)|(with_reducible refine ixJ b rfl ?_ ?_;focus omega)|refine exI hx6 ?_|(with_reducible refine ixJ a rfl ?_ ?_;focus omega)|(with_reducible refine ixJ k rfl ?_ ?_;focus omega)|(with_reducible refine Z0g ?_)|(with_reducible refine Z0i ?_)|refine stp ?_|with_reducible apply Z04<;>intro h)
        conv=>whnf
        refine⟨(k+1,b,upd sB r true),⟨hk1,hW2⟩,by show ws.length-(k+1)<ws.length-k;omega,?_⟩
        refine Y01 [0,1] rfl ?_ ⟨hbp,⟨rfl,rfl,rfl,rfl,Z8h _ rfl⟩,trivial⟩ rfl
        exact wks
     · have e4:decide (z >= 0)=false:=by simp;omega
       unfold ilA ilS
       cases hL:L with
       |nil =>
        rw[hL]at q6a
        simp only[nis,List.map_nil,List.length_nil]at q6a
        show Z0s _ _
        rw[Z09]
        generalize hK:((a:Nat):Int)=av at *
        generalize hK2:((k:Nat):Int)=kv at *
        conv in (Z2k _ _)=>reduce
        subst hK hK2
        repeat' ((conv=>whnf);first|(refine Z0j (q8a _) ?_)|(refine Z0j (q6a _) ?_)|refine exI hx6 ?_|(with_reducible refine ixJ a rfl ?_ ?_;focus omega)|(with_reducible refine ixJ k rfl ?_ ?_;focus omega)|(with_reducible refine Z0g ?_)|(with_reducible refine Z0i ?_)|refine stp ?_|with_reducible apply Z04<;>intro h)
        conv=>whnf
        refine⟨Nat,(λi=>i<=l.length),(λi=>[(2,.ptr 0 0),(5,.rs l.length 1 LV),(13,.int .i64 (i:Nat))]),(λi=>[ilA regs l]),(λi=>l.length-i),⟨0,Y03 _,?_⟩,?_⟩
        · refine Y01 [0] rfl ?_ ⟨hbp,trivial⟩ rfl
          exact wks
        intro i hi
        dsimp only at hi⊢
        by_cases hit:i<l.length
        · have f1:decide ((i:Int)<(l.length:Int))=true:=by simpa using hit
          have g6:=in6 l i hit
          have hmem:=Y02 hit
          have q7i:=q7 l[i] hmem
          have q8i:=q8 l[i]
          have q6i:=q6 i hit
          have hwhy:=λr=>Zlf (l:=l) (v:=i) (r:=r)
          have hnlt:=λw=>hg.nx8 hit (w:=w)
          have hnx2:=Z6W l i
          have hinsF:=Z2e hit
          have hSi:=hS i hit
          have hua:Zdx l i=Z1Z l[i]:=by unfold Zdx;rw[hinsF]
          have hulen:=hul8 _ hmem
          rw[hua,hinsF]at hwhy
          rw[hinsF]at hSi
          have hxi:=hxL i hit
          have hmi:=hm i
          have hli:=hlen i
          generalize hz:Z3q l[i]=z at *
          generalize Z1Z l[i]=ul at *
          generalize l[i]=y at *
          generalize Z0D l i=L at *
          obtain⟨yk,yr,yl,yo,yt,yx⟩:=y
          dsimp only at *
          unfold ilA
          show Z0s _ _
          rw[Z09]
          generalize hK:((i:Nat):Int)=av at *
          conv in (Z2k _ _)=>reduce
          subst hK
          repeat' ((conv=>whnf);first|(refine Z0j (q6i _) ?_)|(with_reducible refine Z0g ?_)|(with_reducible refine Z0i ?_)|refine stp ?_|with_reducible apply Z04<;>intro h)
          conv=>whnf
          refine⟨Nat,(λk=>k<=(lv i).length),(λk=>[(2,.ptr 0 0),(5,.rs l.length 1 LV),(13,.int .i64 (i:Nat)),(14,.rs L.length 1 (nis L)),(15,.int .i64 (k:Nat))]),(λk=>[ilA regs l]),(λk=>(lv i).length-k),⟨0,Y03 _,?_⟩,?_⟩
          · refine Y01 [0] rfl ?_ ⟨hbp,trivial⟩ rfl
            exact wks
          intro k hk
          dsimp only at hk⊢
          by_cases hkt:k<(lv i).length
          · have f2:decide ((k:Int)<((lv i).length:Int))=true:=by simpa using hkt
            have hxr:=Z3n (lv i) hkt (off:=k*1) (by omega)
            have hin:(lv i)[k]∈lv i:=Y02 hkt
            generalize (lv i)[k]=r at *
            have hr:=(hmi r).1 hin
            have hwr:=hwhy r hr.2
            have qu:=q10 ul r (by omega)
            unfold ilA
            show Z0s _ _
            rw[Z09]
            generalize hK:((i:Nat):Int)=av at *
            generalize hK2:((k:Nat):Int)=kv at *
            generalize hN:nis L=nN at *
            conv in (Z2k _ _)=>reduce
            subst hK hK2 hN
            repeat' ((conv=>whnf);first|(refine Z0j (q7i _) ?_)|(refine Z0j (qu _) ?_)|refine exI g6 ?_|refine exI hxi ?_|refine exI hxr ?_|(with_reducible refine ixJ k rfl ?_ ?_;focus omega)|(with_reducible refine ixJ i rfl ?_ ?_;focus omega)|(with_reducible refine Z0g ?_)|(with_reducible refine Z0i ?_)|refine stp ?_|with_reducible apply Z04<;>intro h)
            conv=>whnf
            refine⟨Nat,(λm=>m<=L.length),(λm=>[(2,.ptr 0 0),(5,.rs l.length 1 LV),(13,.int .i64 (i:Nat)),(14,.rs L.length 1 (nis L)),(15,.int .i64 (k:Nat)),(16,.int .i64 (r:Nat)),(17,.bool (ZgU ul lv z L r m)),(18,.int .i64 (m:Nat))]),(λm=>[ilA regs l]),(λm=>L.length-m),⟨0,Y03 _,?_⟩,?_⟩
            · dsimp only
              rw[Zf2]
              refine Y01 [0] rfl ?_ ⟨hbp,trivial⟩ rfl
              exact wks
            intro m hmL
            dsimp only at hmL⊢
            by_cases hmt:m<L.length
            · have f3:decide ((m:Int)<(L.length:Int))=true:=by simpa using hmt
              have hsu:=Zf3 (ul:=ul) (lv:=lv) (z:=z) (r:=r) hmt
              have hxm:=Z3n L hmt (off:=m*1) (by omega)
              have hwn:=hnlt L[m] (Y02 hmt)
              generalize L[m]=w at *
              have hxw2:=hxL w hwn
              have hlw:=hlen w
              have qw:=q10 (lv w) r (by omega)
              unfold ilA
              cases hB:ZgU ul lv z L r m with
              |true =>
               rw[hB,Bool.true_or]at hsu
               show Z0s _ _
               rw[Z09]
               generalize hK:((i:Nat):Int)=av at *
               generalize hK2:((k:Nat):Int)=kv at *
               generalize hK3:((m:Nat):Int)=mv at *
               generalize hK4:((r:Nat):Int)=rv at *
               generalize hN:nis L=nN at *
               conv in (Z2k _ _)=>reduce
               subst hK hK2 hK3 hK4 hN
               repeat' ((conv=>whnf);first|(with_reducible refine Z0g ?_)|(with_reducible refine Z0i ?_)|refine stp ?_|with_reducible apply Z04<;>intro h)
               conv=>whnf
               refine⟨m+1,hmt,by show L.length-(m+1)<L.length-m;omega,?_⟩
               dsimp only
               rw[hsu]
               refine Y01 [0] rfl ?_ ⟨hbp,trivial⟩ rfl
               exact wks
              |false =>
               rw[hB,Bool.false_or]at hsu
               cases hB1:decide (r∈lv w) with
               |false =>
                rw[hB1]at qw
                rw[hB1,Bool.false_and]at hsu
                show Z0s _ _
                rw[Z09]
                generalize hK:((i:Nat):Int)=av at *
                generalize hK2:((k:Nat):Int)=kv at *
                generalize hK3:((m:Nat):Int)=mv at *
                generalize hK4:((r:Nat):Int)=rv at *
                generalize hN:nis L=nN at *
                conv in (Z2k _ _)=>reduce
                subst hK hK2 hK3 hK4 hN
                repeat' ((conv=>whnf);first|(refine Z0j (qw _) ?_)|refine exI hxw2 ?_|refine exI hxm ?_|(with_reducible refine ixJ w rfl ?_ ?_;focus omega)|(with_reducible refine ixJ m rfl ?_ ?_;focus omega)|(with_reducible refine Z0g ?_)|(with_reducible refine Z0i ?_)|refine stp ?_|with_reducible apply Z04<;>intro h)
                conv=>whnf
                refine⟨m+1,hmt,by show L.length-(m+1)<L.length-m;omega,?_⟩
                dsimp only
                rw[hsu]
                refine Y01 [0] rfl ?_ ⟨hbp,trivial⟩ rfl
                exact wks
               |true =>
                rw[hB1]at qw
                rw[hB1,Bool.true_and]at hsu
                show Z0s _ _
                rw[Z09]
                generalize hK:((i:Nat):Int)=av at *
                generalize hK2:((k:Nat):Int)=kv at *
                generalize hK3:((m:Nat):Int)=mv at *
                generalize hK4:((r:Nat):Int)=rv at *
                generalize hN:nis L=nN at *
                conv in (Z2k _ _)=>reduce
                subst hK hK2 hK3 hK4 hN
                repeat' ((conv=>whnf);first|(refine Z0j (qw _) ?_)|(refine Z0j (q8i _) ?_)|refine exI g6 ?_|refine exI hxw2 ?_|refine exI hxm ?_|(with_reducible refine ixJ w rfl ?_ ?_;focus omega)|(with_reducible refine ixJ m rfl ?_ ?_;focus omega)|(with_reducible refine ixJ i rfl ?_ ?_;focus omega)|(with_reducible refine Z0g ?_)|(with_reducible refine Z0i ?_)|refine stp ?_|with_reducible apply Z04<;>intro h)
                conv=>whnf
                refine⟨m+1,hmt,by show L.length-(m+1)<L.length-m;omega,?_⟩
                dsimp only
                rw[hsu]
                refine Y01 [0] rfl ?_ ⟨hbp,trivial⟩ rfl
                exact wks
            · have f3:decide ((m:Int)<(L.length:Int))=false:=by simpa using hmt
              have hall:ZgU ul lv z L r m=true:=by
               have:m=L.length:=by omega
               subst this
               exact Zhy (hwr.imp id λ⟨w,hw,h1,h2⟩=>⟨w,hw,(hm w r).2 ⟨hr.1,h1⟩,h2⟩)
              unfold ilA
              rw[hall]
              show Z0s _ _
              rw[Z09]
              generalize hK:((i:Nat):Int)=av at *
              generalize hK2:((k:Nat):Int)=kv at *
              generalize hK3:((m:Nat):Int)=mv at *
              generalize hK4:((r:Nat):Int)=rv at *
              generalize hN:nis L=nN at *
              conv in (Z2k _ _)=>reduce
              subst hK hK2 hK3 hK4 hN
              repeat' ((conv=>whnf);first|(with_reducible refine Z0g ?_)|(with_reducible refine Z0i ?_)|refine stp ?_|with_reducible apply Z04<;>intro h)
              conv=>whnf
              refine⟨k+1,hkt,by show (lv i).length-(k+1)<(lv i).length-k;omega,?_⟩
              refine Y01 [0] rfl ?_ ⟨hbp,trivial⟩ rfl
              exact wks
          · have f2:decide ((k:Int)<((lv i).length:Int))=false:=by simpa using hkt
            unfold ilA
            show Z0s _ _
            rw[Z09]
            generalize hK:((i:Nat):Int)=av at *
            generalize hK2:((k:Nat):Int)=kv at *
            generalize hN:nis L=nN at *
            conv in (Z2k _ _)=>reduce
            subst hK hK2 hN
            repeat' ((conv=>whnf);first|refine exI hxi ?_|(with_reducible refine ixJ i rfl ?_ ?_;focus omega)|(with_reducible refine Z0g ?_)|(with_reducible refine Z0i ?_)|refine stp ?_|with_reducible apply Z04<;>intro h)
            conv=>whnf
            refine⟨i+1,hit,by show l.length-(i+1)<l.length-i;omega,?_⟩
            refine Y01 [0] rfl ?_ ⟨hbp,trivial⟩ rfl
            exact wks
        · have f1:decide ((i:Int)<(l.length:Int))=false:=by simpa using hit
          unfold ilA
          show Z0s _ _
          rw[Z09]
          generalize hK:((i:Nat):Int)=av at *
          conv in (Z2k _ _)=>reduce
          subst hK
          repeat' ((conv=>whnf);first|(with_reducible refine Z0g ?_)|(with_reducible refine Z0i ?_)|refine stp ?_|with_reducible apply Z04<;>intro h)
          all_goals rfl
       |cons w0 ws0 =>
        rw[hL]at q6a hnxt hnlt hnx2
        obtain⟨p,hpz,hpl⟩:∃p:Nat,Z5X (ws.getD k 0) (w0::ws0).length=(p:Int)/\p<(w0::ws0).length:=by
         have:=Z8X (ws.getD k 0) (m:=(w0::ws0).length) (by simp)
         exact⟨(Z5X (ws.getD k 0) (w0::ws0).length).toNat,by omega,by omega⟩
        have q9a:=q9 (ws.getD k 0) (w0::ws0).length (by simp) (by omega)
        rw[hpz]at q9a
        have hxl:=Z3n (w0::ws0) hpl (off:=p*1) (by omega)
        have hbm:(w0::ws0)[p]∈w0::ws0:=Y02 hpl
        have hwk:=hxw k hk1
        have e5:(((w0::ws0).length:Int)==0)=false:=by simp<;>omega
        generalize (w0::ws0)[p]=b at *
        generalize ws.getD k 0=wz at *
        have hb:=hnlt b hbm
        have hW2:=hnxt b sB hbm (λr h=>h) (λr e=>by omega)
        have hxb:=hxR b hb
        rw[Z6b.2 hW2.rch]at hxb
        generalize w0::ws0=L1 at *
        show Z0s _ _
        rw[Z09]
        generalize hK:((a:Nat):Int)=av at *
        generalize hK2:((k:Nat):Int)=kv at *
        conv in (Z2k _ _)=>reduce
        subst hK hK2
        repeat' ((conv=>whnf);first|(refine Z0j (q8a _) ?_)|(refine Z0j (q6a _) ?_)|(refine Z0j (q9a _) ?_)|refine exI hxl ?_|refine exI hwk ?_|refine exI hxb ?_|(with_reducible refine ixJ p rfl ?_ ?_;focus omega)|(with_reducible refine ixJ b rfl ?_ ?_;focus omega)|refine exI hx6 ?_|(with_reducible refine ixJ a rfl ?_ ?_;focus omega)|(with_reducible refine ixJ k rfl ?_ ?_;focus omega)|(with_reducible refine Z0g ?_)|(with_reducible refine Z0i ?_)|refine stp ?_|with_reducible apply Z04<;>intro h)
        conv=>whnf
        refine⟨(k+1,b,sB),⟨hk1,hW2⟩,by show ws.length-(k+1)<ws.length-k;omega,?_⟩
        refine Y01 [0,1] rfl ?_ ⟨hbp,⟨rfl,rfl,rfl,rfl,Z8h _ rfl⟩,trivial⟩ rfl
        exact wks
 · unfold ilA ilS
   by_cases hk1:k<ws.length
   · have e1:decide ((k:Int)<(ws.length:Int))=true:=by simpa using hk1
     have e2:decide ((k:Int)<200)=false:=by simp;omega
     show Z0s _ _
     rw[Z09]
     generalize hK:((a:Nat):Int)=av at *
     generalize hK2:((k:Nat):Int)=kv at *
     conv in (Z2k _ _)=>reduce
     subst hK hK2
     repeat' ((conv=>whnf);first|(with_reducible refine Z0g ?_)|(with_reducible refine Z0i ?_)|refine stp ?_|with_reducible apply Z04<;>intro h)
     conv=>whnf
     refine⟨Nat,(λi=>i<=l.length),(λi=>[(2,.ptr 0 0),(5,.rs l.length 1 LV),(13,.int .i64 (i:Nat))]),(λi=>[ilA regs l]),(λi=>l.length-i),⟨0,Y03 _,?_⟩,?_⟩
     · refine Y01 [0] rfl ?_ ⟨hbp,trivial⟩ rfl
       exact wks
     intro i hi
     dsimp only at hi⊢
     by_cases hit:i<l.length
     · have f1:decide ((i:Int)<(l.length:Int))=true:=by simpa using hit
       have g6:=in6 l i hit
       have hmem:=Y02 hit
       have q7i:=q7 l[i] hmem
       have q8i:=q8 l[i]
       have q6i:=q6 i hit
       have hwhy:=λr=>Zlf (l:=l) (v:=i) (r:=r)
       have hnlt:=λw=>hg.nx8 hit (w:=w)
       have hnx2:=Z6W l i
       have hinsF:=Z2e hit
       have hSi:=hS i hit
       have hua:Zdx l i=Z1Z l[i]:=by unfold Zdx;rw[hinsF]
       have hulen:=hul8 _ hmem
       rw[hua,hinsF]at hwhy
       rw[hinsF]at hSi
       have hxi:=hxL i hit
       have hmi:=hm i
       have hli:=hlen i
       generalize hz:Z3q l[i]=z at *
       generalize Z1Z l[i]=ul at *
       generalize l[i]=y at *
       generalize Z0D l i=L at *
       obtain⟨yk,yr,yl,yo,yt,yx⟩:=y
       dsimp only at *
       unfold ilA
       show Z0s _ _
       rw[Z09]
       generalize hK:((i:Nat):Int)=av at *
       conv in (Z2k _ _)=>reduce
       subst hK
       repeat' ((conv=>whnf);first|(refine Z0j (q6i _) ?_)|(with_reducible refine Z0g ?_)|(with_reducible refine Z0i ?_)|refine stp ?_|with_reducible apply Z04<;>intro h)
       conv=>whnf
       refine⟨Nat,(λk=>k<=(lv i).length),(λk=>[(2,.ptr 0 0),(5,.rs l.length 1 LV),(13,.int .i64 (i:Nat)),(14,.rs L.length 1 (nis L)),(15,.int .i64 (k:Nat))]),(λk=>[ilA regs l]),(λk=>(lv i).length-k),⟨0,Y03 _,?_⟩,?_⟩
       · refine Y01 [0] rfl ?_ ⟨hbp,trivial⟩ rfl
         exact wks
       intro k hk
       dsimp only at hk⊢
       by_cases hkt:k<(lv i).length
       · have f2:decide ((k:Int)<((lv i).length:Int))=true:=by simpa using hkt
         have hxr:=Z3n (lv i) hkt (off:=k*1) (by omega)
         have hin:(lv i)[k]∈lv i:=Y02 hkt
         generalize (lv i)[k]=r at *
         have hr:=(hmi r).1 hin
         have hwr:=hwhy r hr.2
         have qu:=q10 ul r (by omega)
         unfold ilA
         show Z0s _ _
         rw[Z09]
         generalize hK:((i:Nat):Int)=av at *
         generalize hK2:((k:Nat):Int)=kv at *
         generalize hN:nis L=nN at *
         conv in (Z2k _ _)=>reduce
         subst hK hK2 hN
         repeat' ((conv=>whnf);first|(refine Z0j (q7i _) ?_)|(refine Z0j (qu _) ?_)|refine exI g6 ?_|refine exI hxi ?_|refine exI hxr ?_|(with_reducible refine ixJ k rfl ?_ ?_;focus omega)|(with_reducible refine ixJ i rfl ?_ ?_;focus omega)|(with_reducible refine Z0g ?_)|(with_reducible refine Z0i ?_)|refine stp ?_|with_reducible apply Z04<;>intro h)
         conv=>whnf
         refine⟨Nat,(λm=>m<=L.length),(λm=>[(2,.ptr 0 0),(5,.rs l.length 1 LV),(13,.int .i64 (i:Nat)),(14,.rs L.length 1 (nis L)),(15,.int .i64 (k:Nat)),(16,.int .i64 (r:Nat)),(17,.bool (ZgU ul lv z L r m)),(18,.int .i64 (m:Nat))]),(λm=>[ilA regs l]),(λm=>L.length-m),⟨0,Y03 _,?_⟩,?_⟩
         · dsimp only
           rw[Zf2]
           refine Y01 [0] rfl ?_ ⟨hbp,trivial⟩ rfl
           exact wks
         intro m hmL
         dsimp only at hmL⊢
         by_cases hmt:m<L.length
         · have f3:decide ((m:Int)<(L.length:Int))=true:=by simpa using hmt
           have hsu:=Zf3 (ul:=ul) (lv:=lv) (z:=z) (r:=r) hmt
           have hxm:=Z3n L hmt (off:=m*1) (by omega)
           have hwn:=hnlt L[m] (Y02 hmt)
           generalize L[m]=w at *
           have hxw2:=hxL w hwn
           have hlw:=hlen w
           have qw:=q10 (lv w) r (by omega)
           unfold ilA
           cases hB:ZgU ul lv z L r m with
           |true =>
            rw[hB,Bool.true_or]at hsu
            show Z0s _ _
            rw[Z09]
            generalize hK:((i:Nat):Int)=av at *
            generalize hK2:((k:Nat):Int)=kv at *
            generalize hK3:((m:Nat):Int)=mv at *
            generalize hK4:((r:Nat):Int)=rv at *
            generalize hN:nis L=nN at *
            conv in (Z2k _ _)=>reduce
            subst hK hK2 hK3 hK4 hN
            repeat' ((conv=>whnf);first|(with_reducible refine Z0g ?_)|(with_reducible refine Z0i ?_)|refine stp ?_|with_reducible apply Z04<;>intro h)
            conv=>whnf
            refine⟨m+1,hmt,by show L.length-(m+1)<L.length-m;omega,?_⟩
            dsimp only
            rw[hsu]
            refine Y01 [0] rfl ?_ ⟨hbp,trivial⟩ rfl
            exact wks
           |false =>
            rw[hB,Bool.false_or]at hsu
            cases hB1:decide (r∈lv w) with
            |false =>
             rw[hB1]at qw
             rw[hB1,Bool.false_and]at hsu
             show Z0s _ _
             rw[Z09]
             generalize hK:((i:Nat):Int)=av at *
             generalize hK2:((k:Nat):Int)=kv at *
             generalize hK3:((m:Nat):Int)=mv at *
             generalize hK4:((r:Nat):Int)=rv at *
             generalize hN:nis L=nN at *
             conv in (Z2k _ _)=>reduce
             subst hK hK2 hK3 hK4 hN
             repeat' ((conv=>whnf);first|(refine Z0j (qw _) ?_)|refine exI hxw2 ?_|refine exI hxm ?_|(with_reducible refine ixJ w rfl ?_ ?_;focus omega)|(with_reducible refine ixJ m rfl ?_ ?_;focus omega)|(with_reducible refine Z0g ?_)|(with_reducible refine Z0i ?_)|refine stp ?_|with_reducible apply Z04<;>intro h)
             conv=>whnf
             refine⟨m+1,hmt,by show L.length-(m+1)<L.length-m;omega,?_⟩
             dsimp only
             rw[hsu]
             refine Y01 [0] rfl ?_ ⟨hbp,trivial⟩ rfl
             exact wks
            |true =>
             rw[hB1]at qw
             rw[hB1,Bool.true_and]at hsu
             show Z0s _ _
             rw[Z09]
             generalize hK:((i:Nat):Int)=av at *
             generalize hK2:((k:Nat):Int)=kv at *
             generalize hK3:((m:Nat):Int)=mv at *
             generalize hK4:((r:Nat):Int)=rv at *
             generalize hN:nis L=nN at *
             conv in (Z2k _ _)=>reduce
             subst hK hK2 hK3 hK4 hN
             repeat' ((conv=>whnf);first|(refine Z0j (qw _) ?_)|(refine Z0j (q8i _) ?_)|refine exI g6 ?_|refine exI hxw2 ?_|refine exI hxm ?_|(with_reducible refine ixJ w rfl ?_ ?_;focus omega)|(with_reducible refine ixJ m rfl ?_ ?_;focus omega)|(with_reducible refine ixJ i rfl ?_ ?_;focus omega)|(with_reducible refine Z0g ?_)|(with_reducible refine Z0i ?_)|refine stp ?_|with_reducible apply Z04<;>intro h)
             conv=>whnf
             refine⟨m+1,hmt,by show L.length-(m+1)<L.length-m;omega,?_⟩
             dsimp only
             rw[hsu]
             refine Y01 [0] rfl ?_ ⟨hbp,trivial⟩ rfl
             exact wks
         · have f3:decide ((m:Int)<(L.length:Int))=false:=by simpa using hmt
           have hall:ZgU ul lv z L r m=true:=by
            have:m=L.length:=by omega
            subst this
            exact Zhy (hwr.imp id λ⟨w,hw,h1,h2⟩=>⟨w,hw,(hm w r).2 ⟨hr.1,h1⟩,h2⟩)
           unfold ilA
           rw[hall]
           show Z0s _ _
           rw[Z09]
           generalize hK:((i:Nat):Int)=av at *
           generalize hK2:((k:Nat):Int)=kv at *
           generalize hK3:((m:Nat):Int)=mv at *
           generalize hK4:((r:Nat):Int)=rv at *
           generalize hN:nis L=nN at *
           conv in (Z2k _ _)=>reduce
           subst hK hK2 hK3 hK4 hN
           repeat' ((conv=>whnf);first|(with_reducible refine Z0g ?_)|(with_reducible refine Z0i ?_)|refine stp ?_|with_reducible apply Z04<;>intro h)
           conv=>whnf
           refine⟨k+1,hkt,by show (lv i).length-(k+1)<(lv i).length-k;omega,?_⟩
           refine Y01 [0] rfl ?_ ⟨hbp,trivial⟩ rfl
           exact wks
       · have f2:decide ((k:Int)<((lv i).length:Int))=false:=by simpa using hkt
         unfold ilA
         show Z0s _ _
         rw[Z09]
         generalize hK:((i:Nat):Int)=av at *
         generalize hK2:((k:Nat):Int)=kv at *
         generalize hN:nis L=nN at *
         conv in (Z2k _ _)=>reduce
         subst hK hK2 hN
         repeat' ((conv=>whnf);first|refine exI hxi ?_|(with_reducible refine ixJ i rfl ?_ ?_;focus omega)|(with_reducible refine Z0g ?_)|(with_reducible refine Z0i ?_)|refine stp ?_|with_reducible apply Z04<;>intro h)
         conv=>whnf
         refine⟨i+1,hit,by show l.length-(i+1)<l.length-i;omega,?_⟩
         refine Y01 [0] rfl ?_ ⟨hbp,trivial⟩ rfl
         exact wks
     · have f1:decide ((i:Int)<(l.length:Int))=false:=by simpa using hit
       unfold ilA
       show Z0s _ _
       rw[Z09]
       generalize hK:((i:Nat):Int)=av at *
       conv in (Z2k _ _)=>reduce
       subst hK
       repeat' ((conv=>whnf);first|(with_reducible refine Z0g ?_)|(with_reducible refine Z0i ?_)|refine stp ?_|with_reducible apply Z04<;>intro h)
       all_goals rfl
   · have e1:decide ((k:Int)<(ws.length:Int))=false:=by simpa using hk1
     show Z0s _ _
     rw[Z09]
     generalize hK:((a:Nat):Int)=av at *
     generalize hK2:((k:Nat):Int)=kv at *
     conv in (Z2k _ _)=>reduce
     subst hK hK2
     repeat' ((conv=>whnf);first|(with_reducible refine Z0g ?_)|(with_reducible refine Z0i ?_)|refine stp ?_|with_reducible apply Z04<;>intro h)
     conv=>whnf
     refine⟨Nat,(λi=>i<=l.length),(λi=>[(2,.ptr 0 0),(5,.rs l.length 1 LV),(13,.int .i64 (i:Nat))]),(λi=>[ilA regs l]),(λi=>l.length-i),⟨0,Y03 _,?_⟩,?_⟩
     · refine Y01 [0] rfl ?_ ⟨hbp,trivial⟩ rfl
       exact wks
     intro i hi
     dsimp only at hi⊢
     by_cases hit:i<l.length
     · have f1:decide ((i:Int)<(l.length:Int))=true:=by simpa using hit
       have g6:=in6 l i hit
       have hmem:=Y02 hit
       have q7i:=q7 l[i] hmem
       have q8i:=q8 l[i]
       have q6i:=q6 i hit
       have hwhy:=λr=>Zlf (l:=l) (v:=i) (r:=r)
       have hnlt:=λw=>hg.nx8 hit (w:=w)
       have hnx2:=Z6W l i
       have hinsF:=Z2e hit
       have hSi:=hS i hit
       have hua:Zdx l i=Z1Z l[i]:=by unfold Zdx;rw[hinsF]
       have hulen:=hul8 _ hmem
       rw[hua,hinsF]at hwhy
       rw[hinsF]at hSi
       have hxi:=hxL i hit
       have hmi:=hm i
       have hli:=hlen i
       generalize hz:Z3q l[i]=z at *
       generalize Z1Z l[i]=ul at *
       generalize l[i]=y at *
       generalize Z0D l i=L at *
       obtain⟨yk,yr,yl,yo,yt,yx⟩:=y
       dsimp only at *
       unfold ilA
       show Z0s _ _
       rw[Z09]
       generalize hK:((i:Nat):Int)=av at *
       conv in (Z2k _ _)=>reduce
       subst hK
       repeat' ((conv=>whnf);first|(refine Z0j (q6i _) ?_)|(with_reducible refine Z0g ?_)|(with_reducible refine Z0i ?_)|refine stp ?_|with_reducible apply Z04<;>intro h)
       conv=>whnf
       refine⟨Nat,(λk=>k<=(lv i).length),(λk=>[(2,.ptr 0 0),(5,.rs l.length 1 LV),(13,.int .i64 (i:Nat)),(14,.rs L.length 1 (nis L)),(15,.int .i64 (k:Nat))]),(λk=>[ilA regs l]),(λk=>(lv i).length-k),⟨0,Y03 _,?_⟩,?_⟩
       · refine Y01 [0] rfl ?_ ⟨hbp,trivial⟩ rfl
         exact wks
       intro k hk
       dsimp only at hk⊢
       by_cases hkt:k<(lv i).length
       · have f2:decide ((k:Int)<((lv i).length:Int))=true:=by simpa using hkt
         have hxr:=Z3n (lv i) hkt (off:=k*1) (by omega)
         have hin:(lv i)[k]∈lv i:=Y02 hkt
         generalize (lv i)[k]=r at *
         have hr:=(hmi r).1 hin
         have hwr:=hwhy r hr.2
         have qu:=q10 ul r (by omega)
         unfold ilA
         show Z0s _ _
         rw[Z09]
         generalize hK:((i:Nat):Int)=av at *
         generalize hK2:((k:Nat):Int)=kv at *
         generalize hN:nis L=nN at *
         conv in (Z2k _ _)=>reduce
         subst hK hK2 hN
         repeat' ((conv=>whnf);first|(refine Z0j (q7i _) ?_)|(refine Z0j (qu _) ?_)|refine exI g6 ?_|refine exI hxi ?_|refine exI hxr ?_|(with_reducible refine ixJ k rfl ?_ ?_;focus omega)|(with_reducible refine ixJ i rfl ?_ ?_;focus omega)|(with_reducible refine Z0g ?_)|(with_reducible refine Z0i ?_)|refine stp ?_|with_reducible apply Z04<;>intro h)
         conv=>whnf
         refine⟨Nat,(λm=>m<=L.length),(λm=>[(2,.ptr 0 0),(5,.rs l.length 1 LV),(13,.int .i64 (i:Nat)),(14,.rs L.length 1 (nis L)),(15,.int .i64 (k:Nat)),(16,.int .i64 (r:Nat)),(17,.bool (ZgU ul lv z L r m)),(18,.int .i64 (m:Nat))]),(λm=>[ilA regs l]),(λm=>L.length-m),⟨0,Y03 _,?_⟩,?_⟩
         · dsimp only
           rw[Zf2]
           refine Y01 [0] rfl ?_ ⟨hbp,trivial⟩ rfl
           exact wks
         intro m hmL
         dsimp only at hmL⊢
         by_cases hmt:m<L.length
         · have f3:decide ((m:Int)<(L.length:Int))=true:=by simpa using hmt
           have hsu:=Zf3 (ul:=ul) (lv:=lv) (z:=z) (r:=r) hmt
           have hxm:=Z3n L hmt (off:=m*1) (by omega)
           have hwn:=hnlt L[m] (Y02 hmt)
           generalize L[m]=w at *
           have hxw2:=hxL w hwn
           have hlw:=hlen w
           have qw:=q10 (lv w) r (by omega)
           unfold ilA
           cases hB:ZgU ul lv z L r m with
           |true =>
            rw[hB,Bool.true_or]at hsu
            show Z0s _ _
            rw[Z09]
            generalize hK:((i:Nat):Int)=av at *
            generalize hK2:((k:Nat):Int)=kv at *
            generalize hK3:((m:Nat):Int)=mv at *
            generalize hK4:((r:Nat):Int)=rv at *
            generalize hN:nis L=nN at *
            conv in (Z2k _ _)=>reduce
            subst hK hK2 hK3 hK4 hN
            repeat' ((conv=>whnf);first|(with_reducible refine Z0g ?_)|(with_reducible refine Z0i ?_)|refine stp ?_|with_reducible apply Z04<;>intro h)
            conv=>whnf
            refine⟨m+1,hmt,by show L.length-(m+1)<L.length-m;omega,?_⟩
            dsimp only
            rw[hsu]
            refine Y01 [0] rfl ?_ ⟨hbp,trivial⟩ rfl
            exact wks
           |false =>
            rw[hB,Bool.false_or]at hsu
            cases hB1:decide (r∈lv w) with
            |false =>
             rw[hB1]at qw
             rw[hB1,Bool.false_and]at hsu
             show Z0s _ _
             rw[Z09]
             generalize hK:((i:Nat):Int)=av at *
             generalize hK2:((k:Nat):Int)=kv at *
             generalize hK3:((m:Nat):Int)=mv at *
             generalize hK4:((r:Nat):Int)=rv at *
             generalize hN:nis L=nN at *
             conv in (Z2k _ _)=>reduce
             subst hK hK2 hK3 hK4 hN
             repeat' ((conv=>whnf);first|(refine Z0j (qw _) ?_)|refine exI hxw2 ?_|refine exI hxm ?_|(with_reducible refine ixJ w rfl ?_ ?_;focus omega)|(with_reducible refine ixJ m rfl ?_ ?_;focus omega)|(with_reducible refine Z0g ?_)|(with_reducible refine Z0i ?_)|refine stp ?_|with_reducible apply Z04<;>intro h)
             conv=>whnf
             refine⟨m+1,hmt,by show L.length-(m+1)<L.length-m;omega,?_⟩
             dsimp only
             rw[hsu]
             refine Y01 [0] rfl ?_ ⟨hbp,trivial⟩ rfl
             exact wks
            |true =>
             rw[hB1]at qw
             rw[hB1,Bool.true_and]at hsu
             show Z0s _ _
             rw[Z09]
             generalize hK:((i:Nat):Int)=av at *
             generalize hK2:((k:Nat):Int)=kv at *
             generalize hK3:((m:Nat):Int)=mv at *
             generalize hK4:((r:Nat):Int)=rv at *
             generalize hN:nis L=nN at *
             conv in (Z2k _ _)=>reduce
             subst hK hK2 hK3 hK4 hN
             repeat' ((conv=>whnf);first|(refine Z0j (qw _) ?_)|(refine Z0j (q8i _) ?_)|refine exI g6 ?_|refine exI hxw2 ?_|refine exI hxm ?_|(with_reducible refine ixJ w rfl ?_ ?_;focus omega)|(with_reducible refine ixJ m rfl ?_ ?_;focus omega)|(with_reducible refine ixJ i rfl ?_ ?_;focus omega)|(with_reducible refine Z0g ?_)|(with_reducible refine Z0i ?_)|refine stp ?_|with_reducible apply Z04<;>intro h)
             conv=>whnf
             refine⟨m+1,hmt,by show L.length-(m+1)<L.length-m;omega,?_⟩
             dsimp only
             rw[hsu]
             refine Y01 [0] rfl ?_ ⟨hbp,trivial⟩ rfl
             exact wks
         · have f3:decide ((m:Int)<(L.length:Int))=false:=by simpa using hmt
           have hall:ZgU ul lv z L r m=true:=by
            have:m=L.length:=by omega
            subst this
            exact Zhy (hwr.imp id λ⟨w,hw,h1,h2⟩=>⟨w,hw,(hm w r).2 ⟨hr.1,h1⟩,h2⟩)
           unfold ilA
           rw[hall]
           show Z0s _ _
           rw[Z09]
           generalize hK:((i:Nat):Int)=av at *
           generalize hK2:((k:Nat):Int)=kv at *
           generalize hK3:((m:Nat):Int)=mv at *
           generalize hK4:((r:Nat):Int)=rv at *
           generalize hN:nis L=nN at *
           conv in (Z2k _ _)=>reduce
           subst hK hK2 hK3 hK4 hN
           repeat' ((conv=>whnf);first|(with_reducible refine Z0g ?_)|(with_reducible refine Z0i ?_)|refine stp ?_|with_reducible apply Z04<;>intro h)
           conv=>whnf
           refine⟨k+1,hkt,by show (lv i).length-(k+1)<(lv i).length-k;omega,?_⟩
           refine Y01 [0] rfl ?_ ⟨hbp,trivial⟩ rfl
           exact wks
       · have f2:decide ((k:Int)<((lv i).length:Int))=false:=by simpa using hkt
         unfold ilA
         show Z0s _ _
         rw[Z09]
         generalize hK:((i:Nat):Int)=av at *
         generalize hK2:((k:Nat):Int)=kv at *
         generalize hN:nis L=nN at *
         conv in (Z2k _ _)=>reduce
         subst hK hK2 hN
         repeat' ((conv=>whnf);first|refine exI hxi ?_|(with_reducible refine ixJ i rfl ?_ ?_;focus omega)|(with_reducible refine Z0g ?_)|(with_reducible refine Z0i ?_)|refine stp ?_|with_reducible apply Z04<;>intro h)
         conv=>whnf
         refine⟨i+1,hit,by show l.length-(i+1)<l.length-i;omega,?_⟩
         refine Y01 [0] rfl ?_ ⟨hbp,trivial⟩ rfl
         exact wks
     · have f1:decide ((i:Int)<(l.length:Int))=false:=by simpa using hit
       unfold ilA
       show Z0s _ _
       rw[Z09]
       generalize hK:((i:Nat):Int)=av at *
       conv in (Z2k _ _)=>reduce
       subst hK
       repeat' ((conv=>whnf);first|(with_reducible refine Z0g ?_)|(with_reducible refine Z0i ?_)|refine stp ?_|with_reducible apply Z04<;>intro h)
       all_goals rfl
end
end Go.Proofs.YtpobjilfhkbhjaaDoor.lex
end
namespace Go.Proofs.YtpobjilfhkbhjaaDoor.ilLaw
open Go.Abs Go.RowKit
section
def Qs:List (AV->Prop):=[λu=>∃c:lex.Cd,u=c.av/\lex.okC c,λu=>∃l:List Int,u=lex.rsI l/\l.length<=9223372036854775807]
theorem opens:Z6r Y00 Tryd.f3.params.toList Qs:=by
 rw[Tryd.params3]
 exact⟨lex.opensC,lex.opensNs,trivial⟩
theorem law(us:List AV)(h:ZkL Qs us):ValOK Y00 runLives.gl 3 us (.bool true):=by
 obtain⟨_,_,rfl,⟨c,rfl,hc⟩,h1⟩:=ZaA h
 obtain⟨_,_,rfl,⟨ws,rfl,hw⟩,h2⟩:=ZaA h1
 cases Zin h2
 exact lex.il_law c hc ws hw
theorem solid:Solid Y00:=by unfold Solid;kernel_rfl
end
end Go.Proofs.YtpobjilfhkbhjaaDoor.ilLaw

/-
  Texts of this proof, one behind the other (part 6).
-/
import Derived.Test.YtajhailaofchlaaDoorXc5
import Derived.Shelf.SlIter.Nil
import Derived.Shelf.SortM.Plain
import Derived.Shelf.SortM.SortNone
import Derived.Test.YtajhailaofchlaaDoorProg
set_option linter.unusedVariables false
set_option linter.unusedSimpArgs false
set_option maxRecDepth 100000
set_option maxHeartbeats 4000000
open Go.Proofs.Tryd renaming prog → Y00,underlying9 → Y0P,isAgg9 → Y0Q,sizeOf9 → Y0R,zeroValue9 → Y0S,underlying0 → Y14,zeroValue0 → Y15,underlying46 → Y16,zeroValue46 → Y17
open Nat renaming le_refl → Y01,zero_add → Y0b,add_comm → Y0o,min_eq_left → Y0p,zero_le → Y0q,sub_self → Y0v,add_assoc → Y0y,add_sub_cancel_left → Y0z,sub_add_cancel → Y0F,add_zero → Y0I,sub_zero → Y0K,add_sub_cancel → Y0L,ble_eq_true_of_le → Y0O,eq_of_beq_eq_true → Y12
open List renaming append_assoc → Y02,length_cons → Y04,getElem?_append_right → Y08,length_append → Y0a,getElem?_append_left → Y0d,getElem?_eq_some_iff → Y0e,nil_append → Y0h,cons_append → Y0i,getElem?_eq_getElem → Y0j,getElem?_cons_succ → Y0l,append_nil → Y0m,length_take → Y0n,map_cons → Y0r,take_add_one → Y0s,take_length → Y0u,getElem?_cons_zero → Y0w,getElem?_range' → Y0x,all_append → Y0A,mem_cons → Y0C,length_nil → Y0D,take_zero → Y0E,set_append_right → Y0J,mem_range'_1 → Y0M,set_cons_succ → Y0N,getElem?_map → Y0T,getElem?_of_mem → Y0U,range'_succ → Y0V,ext_getElem? → Y0W,map_append → Y0X,length_set → Y0Y,getElem?_set_self → Y0Z,getElem?_set_ne → Y10,append_cancel_left → Y11,not_mem_nil → Y13,eq_nil_of_length_eq_zero → Y18
open Go.Abs.Wk renaming slice → Y03,ptr → Y07,func → Y09,int → Y0f
open Go.Abs.BodyGe renaming pre → Y05,cellsL → Y0c
open And renaming intro → Y06
open Bool renaming and_true → Y0g,and_eq_true → Y0B,not_eq_true' → Y0H
open Go.Abs.FgL renaming mk → Y0k
open Option renaming toList_some → Y0t,map_some → Y0G
namespace Go.Proofs.YtajhailaofchlaaDoor.lex
open Go.Abs Go.RowKit
section
variable {gl:Glob}
theorem Z8y:∀e:St,1<=Z1U e
 | .mk _ _ _ _ _ _ _=>by simp only[Z1U];omega
theorem Z4z:∀l:List St,l.length<=sizeSL l
 |[]=>by simp[sizeSL]
 |e::l=>by have:=Z4z l;have:=Z8y e;simp only[sizeSL,Y04];omega
theorem Z9o:∀l:List St,(stC l).all Z6C=true
 |[]=>by simp only[stC];rfl
 | .mk k n l o x t e::r=>by simp only[stC,St.cells,exA,Y0A,Z9o r,Y0g];rfl
theorem ZcZ:∀a b:List St,stC (a++b)=stC a++stC b
 |[],b=>by simp only[stC,Y0h]
 |e::a,b=>by simp only[stC,Y0i,ZcZ a b,Y02]
theorem Z9n:∀l:List St,(stC l).length=l.length*7
 |[]=>by simp only[stC];rfl
 | .mk k n l o x t e::r=>by simp only[stC,St.cells,Y0a,Z9n r,Y04,Y0D];omega
theorem ZbY:∀e:St,e.cells.length=7
 | .mk _ _ _ _ _ _ _=>by simp only[St.cells];rfl
def Zd0(l:List St)(i:Nat):List AV:=stC (l.take i)++Z1a (l.length-i) [.int .i64 0,.str [],.str [],.int .i64 0,.nslice,.nslice,.nslice]
theorem Ze2(l:List St)(i:Nat)(h:i<l.length):Zd0 l i=stC (l.take i)++([.int .i64 0,.str [],.str [],.int .i64 0,.nslice,.nslice,.nslice]++Z1a (l.length-(i+1)) [.int .i64 0,.str [],.str [],.int .i64 0,.nslice,.nslice,.nslice]):=by
 have e:l.length-i=(l.length-(i+1))+1:=by omega
 unfold Zd0;rw[e];rfl
theorem Zfk(l:List St)(i:Nat)(h:i<l.length):stC (l.take i)++(l[i].cells++Z1a (l.length-(i+1)) [.int .i64 0,.str [],.str [],.int .i64 0,.nslice,.nslice,.nslice])=Zd0 l (i+1):=by
 unfold Zd0
 rw[Y0s,ZcZ,Y0j h]
 simp only[Y0t,stC,Y0m,Y02]
theorem ZhV(l:List St)(i k:Nat)(h:i<l.length)(hk:k=i*7):spl (Zd0 l i) k l[i].cells=some (Zd0 l (i+1)):=by
 have hl:(stC (l.take i)).length=i*7:=by rw[Z9n,Y0n,Y0p (by omega)]
 rw[Ze2 l i h,hk,<- hl,ZhX _ _ _ _ (by rw[ZbY];rfl),Zfk l i h]
theorem Zfj(l:List St):Zd0 l 0=Z1a l.length [.int .i64 0,.str [],.str [],.int .i64 0,.nslice,.nslice,.nslice]:=by simp only[Zd0,Y0E,stC,Y0h,Y0K]
theorem ZhW(l:List St):Zd0 l l.length=stC l:=by simp only[Zd0,Y0u,Y0v,Z1a,Y0m]
theorem Z7c(l:List St)(i:Nat):refsL (Zd0 l i) []=[]:=by
 refine Z06 ?_
 unfold Zd0
 rw[Y0A,Z26 (Z9o _),Z0w _ rfl,Y0g]
theorem ZjA(n:Nat)(h:n<=1048576)(H:Z00):Z0U Y00 28 (.int .i64 n) (.int .i64 n) H=some (.slice H.length 0 n n 7,Z14 H (Z1a n [.int .i64 0,.str [],.str [],.int .i64 0,.nslice,.nslice,.nslice]) 30):=by
 have hz:tsz Y00 30=some 7:=by kernel_rfl
 have hb:(Y00.info? 30).map (·.bytes)=some 120:=by kernel_rfl
 have hu:Z1o Y00 30=some (.agg [.int .i64 0,.str [],.str [],.int .i64 0,.nslice,.nslice,.nslice]):=by kernel_rfl
 exact Zjy Tryd.underlying28 hz hb hu rfl (by decide) n (by omega) (by omega)
theorem ZdJ:∀(n:Nat)(l:List St),sizeSL l<=n->okSL l->sizeSL l<=1048576->Z0k Y00 gl 60 [stA l] (stA l)
 |n,l,h,hok,hs=>by
  obtain⟨O,hO,p1,p2,-⟩:=fams (P:=Y00) (gl:=gl) [{ I:=List St,f:=60,G:=λl=>sizeSL l<n/\okSL l/\sizeSL l<=1048576,A:=λl=>[stA l],R:=λl=>stA l,body:=(by kernel_rfl),inj:=(λi j _ _ h=>by simp only[List.cons.injEq,and_true]at h;exact h),ok:=(λl hl=>⟨rfl,match n,hl.1 with|n+1,h=>ZdJ n l (by omega) hl.2.1 hl.2.2⟩) },
   { I:=List Ex,f:=81,G:=λl=>okL l/\sizeL l<=1048576,A:=λl=>[exA l],R:=λl=>exA l,body:=(by kernel_rfl),inj:=(λi j _ _ h=>by simp only[List.cons.injEq,and_true]at h;exact h),ok:=(λl hl=>⟨rfl,ZdK _ l (Y01 _) hl.1 hl.2⟩) }] rfl
  have q1:∀l,sizeSL l<n->okSL l->sizeSL l<=1048576->∀H,Z08 Y00 O H 60 [stA l]=some (stA l,H):=λl h1 h2 h3=>p1 l ⟨h1,h2,h3⟩
  have q2:∀l,okL l->sizeL l<=1048576->∀H,Z08 Y00 O H 81 [exA l]=some (exA l,H):=λl h1 h2=>p2 l ⟨h1,h2⟩
  clear p1 p2
  have hlen:=Z4z l
  have hm:=ZjA l.length (by omega)
  simp only[stA,exA]at q1 q2⊢
  refine Z0C follows Z0x hO Tryd.func60 rfl ?_
  repeat' ((conv=>whnf);first|refine exI (hm _) ?_|refine stp ?_|with_reducible apply Z03<;>intro h)
  conv=>whnf
  refine⟨Nat,(λi=>i<=l.length),(λi=>[(3,.slice 0 0 l.length l.length 7),(9,.rs l.length 7 (stC l)),(10,.int .i64 l.length),(11,.int .i64 i)]),(λi=>[⟨true,0,0,.cells (Zd0 l i) 30⟩]),(λi=>l.length-i),⟨0,Y0q _,Y0k [0] rfl ?_ ⟨⟨rfl,rfl,rfl,rfl,Y05 (rest:=[]) ?_ (Z7c l 0)⟩,trivial⟩ rfl⟩,?_⟩
  · refine Y06 (Y03 rfl rfl rfl (Y01 _) (Y01 _) rfl) ?_
    exact wks
  ·rw[Zfj];simp
  intro i hi
  dsimp only
  by_cases hlt:i<l.length
  · have e1:decide ((i:Int)<(l.length:Int))=true:=by simpa using hlt
    have hx:=st7 l i hlt
    have hsp:=ZhV l i (0+i*7) hlt (by omega)
    have hsz:=Z19 _ _ (Z0c hlt)
    have hxo:=Z1Q hok _ (Z0c hlt)
    have hrf:=Z7c l (i+1)
    generalize hnx:Zd0 l (i+1)=nx at *
    generalize l[i]=x at *
    obtain⟨k,m,c,o,x,t,e⟩:=x
    have hk:=Z38 hxo
    simp only[St.exprs,St.name,St.loc,St.thn,St.els]at hk
    obtain⟨_,_,_,_,_,hx2,ht2,he2⟩:=hk
    simp only[Z1U]at hsz
    have q3:=q2 x hx2 (by omega)
    have q4:=q1 t (by omega) ht2 (by omega)
    have q5:=q1 e (by omega) he2 (by omega)
    simp only[St.cells,exA]at hx hsp
    clear hxo
    repeat' ((conv=>whnf);first|with_reducible refine exI (q3 _) ?_|with_reducible refine exI (q4 _) ?_|with_reducible refine exI (q5 _) ?_|(with_reducible refine ixJ i rfl ?_ ?_;focus omega)|refine exI hx ?_|refine exI hsp ?_|refine stp ?_|with_reducible apply Z03<;>intro h)
    conv=>whnf
    refine⟨i+1,hlt,by show l.length-(i+1)<l.length-i;omega,Y0k [0] rfl ?_ ⟨⟨rfl,rfl,rfl,rfl,Y05 (rest:=[]) ?_ (Z7c l (i+1))⟩,trivial⟩ rfl⟩
    · refine Y06 (Y03 rfl rfl rfl (Y01 _) (Y01 _) rfl) ?_
      exact wks
    ·rw[hnx];simp
  · have e1:decide ((i:Int)<(l.length:Int))=false:=by simpa using hlt
    have hi2:i=l.length:=by have:=hi;omega
    subst hi2
    rw[ZhW]
    repeat' ((conv=>whnf);first|refine stp ?_|with_reducible apply Z03<;>intro h)
    conv=>whnf
    exact⟨_,Z4l (b:=0) rfl (Z9n l) (Z9o l),rfl⟩
end
end Go.Proofs.YtajhailaofchlaaDoor.lex
section
namespace Go.Abs
open Go.RowKit
def ZeT(P:Program)(gl:Glob)(f:Nat)(args:List AV)(r:AV)(N:Z00):Prop :=
 ∀(sn:Z0h)(W:World)(cargs:List Value),GlOK gl sn->R sn noI [] W->LR sn noI args cargs ->
  Calls P f cargs.toArray W λe W'=>∃v sn' ι',e = .returned v/\VR sn' ι' r v/\Stq 0 sn noI [] W sn' ι' N W'
def ZnZ(P:Program)(l:List ResultVar)(r:AV)(N:Z00)(tm:Tr)(H:Z00):Prop :=
 onO (Z2w P tm H l) λvs=>∃m,HpGe H m m N 0/\Z0H (m.map (Z1b H))=true/\Wk m (Z0J vs) r
theorem Zg7 {P : Program} {gl : Glob} {orc : Orc} (hm : P.follows .mixedOrders = true) (hn : NoNum P) (hO : OrcSound P gl orc) {f : Nat} {fn : Func} {c : Code} {args : List AV} {N : Z00} {r : AV}
  (hf:P.funcs[f]? = some fn) (hc:fn.body=some c) {cw:CW} (hcw:ZbN P orc cw)
  (h:Z1p (tmk (Z9i args fn.ntmps args.length) (Z8t 20 fn.ntmps)) λtm=>Z21 P gl orc cw Zf2 c (ZnZ P fn.results.toList r N) (λ_ _ _=>False) (ZnZ P fn.results.toList r N) tm []):ZeT P gl f args r N:=by
 intro sn W cargs hg hR ha
 rw[Z0m]at h
 refine Z48 hf hc (ZhG (rd:=none) hm hn hO hcw c h) hg hR ha (λ_ _ _ h=>h) λx tm1 H a1 W1 sn1 ι1 hx s1 t1=>?_
 have key:ZnZ P fn.results.toList r N tm1 H->∃v,(results fn a1.tmps).run P W1 = .ok v W1/\∃sn' ι',VR sn' ι' r v/\Stq 0 sn noI [] W sn' ι' N W1:=by
  intro h
  obtain⟨us,h1,m,h2,h3,h4⟩:=Z01 h
  obtain⟨vs,k1,k2⟩:=Z1g s1.rel t1 _ _ h1
  obtain⟨hS,_⟩:=Fg.sound (k:=0) (m:=m) (tm:=tm1) (tm2:=Z5N (λ_=>none) tm1) ⟨⟨λn u2 e=>(by have:=Z6O _ _ _ _ e;cases this),λn e=>(by rw[Z9I]at e;exact e)⟩,h2,h3,rfl⟩ s1.rel t1
  exact⟨_,Z1W k2,sn1,iot m ι1,h4 _ _ _ (ZaB (fn:=fn) k1),s1.trans hS⟩
 cases x with
 |normal =>
  obtain⟨v,k1,sn',ι',k2,k3⟩:=key hx
  exact⟨v,k1,v,sn',ι',rfl,k2,k3⟩
 |exit id=>exact hx.elim
 |ret =>
  obtain⟨v,k1,sn',ι',k2,k3⟩:=key hx
  exact⟨v,k1,v,sn',ι',rfl,k2,k3⟩
def shO(d:Nat)(o:AObj):AObj:=⟨o.alive,o.fam+d,o.sh,Zaj (· + d) o.body⟩
def shA(d:Nat)(N:Z00):Z00:=N.map (shO d)
theorem Zfs{d:Nat}{N:Z00}{b:Nat}{o:AObj}(h:(shA d N)[b]? = some o):∃o0,N[b]? = some o0/\o=shO d o0:=by
 unfold shA at h
 rw[Y0T]at h
 cases hN:N[b]? with
 |none=>rw[hN]at h;cases h
 |some o0=>rw[hN]at h;simp at h;exact⟨o0,rfl,h.symm⟩
section
open Classical
noncomputable def ZeW{I:Type}(G:I->Prop)(fF:I->Nat)(fA:I->List AV)(fR:I->AV)(fN:I->Z00):Orc:=λf args H =>
 if h:∃i,G i/\fF i=f/\fA i=args then some (ren (· + H.length) (fR (Classical.choose h)),H++shA H.length (fN (Classical.choose h))) else none
theorem Z8H {P : Program} {gl : Glob} {I : Type} {G : I -> Prop} {fF : I -> Nat} {fA : I -> List AV} {fR : I -> AV} {fN : I -> Z00}
  (h:∀i,G i->refsL (fA i) []=[]/\(∀o∈fN i,o.alive=true)/\ZeT P gl (fF i) (fA i) (fR i) (fN i)):OrcSound P gl (ZeW G fF fA fR fN):=by
 intro f args H r H' e sn ι W cargs hg hR ha
 unfold ZeW at e
 split at e
 · rename_i hi
   simp only[Option.some.injEq,Prod.mk.injEq]at e
   obtain⟨rfl,rfl⟩:=e
   obtain⟨h1,h2,h3⟩:=Classical.choose_spec hi
   generalize Classical.choose hi=i at *
   subst h2;subst h3
   obtain⟨hr,hal,hok⟩:=h i h1
   have hR0:R sn noI [] W:=⟨λb=>⟨λhb=>(by simp at hb),λ⟨p,hp⟩=>(by cases hp)⟩,λb p hp=>(by cases hp),λb o p hb=>(by simp at hb),λb b' o o' p p' hb=>(by simp at hb),
    λa v hv=>⟨(hR.snap a v hv).1,(hR.snap a v hv).2.1,λb o p hb=>(by simp at hb)⟩,λb o p hb=>(by simp at hb)⟩
   have ha0:LR sn noI (fA i) cargs:=by
    have:VR sn ι (.tuple (fA i)) (.tuple cargs.toArray):=by simp only[VR];exact⟨_,rfl,by simpa using ha⟩
    have h2:=Z1h (ι:=ι) (ι':=noI) (.tuple (fA i)) [] _ (λx hx=>by simp only[refs]at hx;rw[hr]at hx;cases hx) this
    simp only[VR]at h2
    obtain⟨d,e1,e2⟩:=h2
    simp at e1;subst e1;simpa using e2
   refine (hok sn W cargs hg hR0 ha0).monoY ?_
   rintro e W' ⟨v,sn',ι',rfl,hv,hs⟩
   generalize hd:H.length=d
   let κ : Z0g:=λb=>if b<d then ι b else ι' (b-d)
   have k1:∀b,b<d -> κ b = ι b:=λb hb=>if_pos hb
   have k2:∀b,κ (b+d) = ι' b:=λb=>by show (if b+d<d then ι (b+d) else ι' (b+d-d)) = ι' b;rw[if_neg (by omega),Y0L]
   have hκ : (λb=>κ (b+d)) = ι':=funext k2
   have hle:Le sn sn' ι κ:=⟨hs.le,λb p hb=>by
    have:b<d:=by have:=(hR.dom b).2 ⟨p,hb⟩;omega
    rw[k1 b this];exact hb⟩
   have hframe:∀c,c<W.heap.size->W'.heap[c]? = W.heap[c]?:=λc hc=>hs.frame c hc λb o p hb=>by simp at hb
   have hnew:∀(b:Nat)(o:AObj) p,(fN i)[b]? = some o -> ι' b=some p->W.heap.size<=p.blk:=λb o p hb hp=>by
    rcases hs.fresh b o p hb (hal o (List.mem_of_getElem? hb)) hp with h|⟨b0,o0,p0,h,_⟩
    ·exact h
    ·simp at h
   have hget:∀(b:Nat)(o:AObj) p,(H++shA d (fN i))[b]? = some o -> κ b=some p->(b<d/\H[b]? = some o /\ ι b=some p/\p.blk<W.heap.size)\/∃o0,d<=b/\(fN i)[b-d]? = some o0/\o=shO d o0 /\ ι' (b-d)=some p/\W.heap.size<=p.blk:=by
    intro b o p hb hp
    by_cases hlt:b<d
    · rw[Y0d (by omega)]at hb
      rw[k1 b hlt]at hp
      exact .inl ⟨hlt,hb,hp,hR.blk b p hp⟩
    · rw[Y08 (by omega),hd]at hb
      obtain⟨o0,e1,e2⟩:=Zfs hb
      have hp2 : ι' (b-d)=some p:=by have:=k2 (b-d);rw[Y0F (by omega)]at this;rw[<- this];exact hp
      exact .inr ⟨o0,by omega,e1,e2,hp2,hnew _ _ _ e1 hp2⟩
   have hrel:R sn' κ (H++shA d (fN i)) W':=by
    refine⟨λb=>⟨λhb=>?_,λ⟨p,hp⟩=>?_⟩,λb p hp=>?_,λb o p hb ha hp=>?_,λb b' o o' p p' hb hb' ha ha' hp hp' e=>?_,λa v hv=>?_,λb o p hb hp e=>?_⟩
    · by_cases hlt:b<d
      ·rw[k1 b hlt];exact (hR.dom b).1 (by omega)
      · have:b-d<(fN i).length:=by simp[shA]at hb;omega
        obtain⟨p,hp⟩:=(hs.rel.dom (b-d)).1 this
        have:=k2 (b-d);rw[Y0F (by omega)]at this
        exact⟨p,by rw[this];exact hp⟩
    · by_cases hlt:b<d
      ·simp;omega
      · have:=k2 (b-d);rw[Y0F (by omega)]at this
        rw[this]at hp
        have:=(hs.rel.dom (b-d)).2 ⟨p,hp⟩
        simp[shA];omega
    · by_cases hlt:b<d
      · rw[k1 b hlt]at hp
        have:=hR.blk b p hp;have:=hs.size;omega
      · have:=k2 (b-d);rw[Y0F (by omega)]at this
        rw[this]at hp
        exact hs.rel.blk _ p hp
    · rcases hget b o p hb hp with ⟨h1,h2,h3,h4⟩|⟨o0,h1,h2,rfl,h3,h4⟩
      ·exact Z0W hle (hframe _ h4) (hR.obj b o p h2 ha h3)
      · have h5:=hs.rel.obj _ _ _ h2 ha h3
        refine Zk2 _ ?_
        show OR sn' (λb=>κ (b+d)) W' o0.body p
        rw[hκ];exact h5
    · rcases hget b o p hb hp with ⟨h1,h2,h3,h4⟩|⟨o0,h1,h2,rfl,h3,h4⟩<;>rcases hget b' o' p' hb' hp' with ⟨g1,g2,g3,g4⟩|⟨o0',g1,g2,rfl,g3,g4⟩
      ·exact hR.sep b b' o o' p p' h2 g2 ha ha' h3 g3 e
      ·omega
      ·omega
      · obtain⟨e1,e2⟩:=hs.rel.sep _ _ _ _ p p' h2 g2 ha ha' h3 g3 e
        exact⟨by simp only[shO,e1],e2⟩
    · obtain⟨g1,g2,g3⟩:=hs.rel.snap a v hv
      refine⟨g1,g2,λb o p hb ha hp=>?_⟩
      rcases hget b o p hb hp with ⟨h1,h2,h3,h4⟩|⟨o0,h1,h2,rfl,h3,h4⟩
      · rcases hs.sfresh a v hv with h|h|⟨b0,o0,p0,h,_⟩
        ·exact (hR.snap a v h).2.2 b o p h2 ha h3
        ·omega
        ·simp at h
      ·exact g3 _ _ p h2 ha h3
    · rcases hget b o p hb hp with ⟨h1,h2,h3,h4⟩|⟨o0,h1,h2,rfl,h3,h4⟩
      ·exact hR.shz b o p h2 h3 e
      ·exact hs.rel.shz _ _ p h2 h3 e
   refine⟨v,sn',κ,rfl,?_,hrel,hle,λb p hp=>?_,λc hc _=>hframe c hc,hs.size,hs.os,hs.tape,hs.output,λa v hv=>?_,λb o hb=>?_⟩
   ·rw[Z5x,hκ];exact hv
   · by_cases hlt:b<d
     ·rw[k1 b hlt]at hp;exact .inl hp
     · have h3:=k2 (b-d);rw[Y0F (by omega)]at h3
       rw[h3]at hp
       obtain⟨o,ho⟩:∃o,(fN i)[b-d]? = some o:=⟨_,Y0j ((hs.rel.dom (b-d)).2 ⟨p,hp⟩)⟩
       exact .inr (.inl (hnew _ _ _ ho hp))
   · rcases hs.sfresh a v hv with h|h|⟨b0,o0,p0,h,_⟩
     ·exact .inl h
     ·exact .inr (.inl h)
     ·simp at h
   ·exact⟨o,by rw[Y0d (Y0e.1 hb).1];exact hb,rfl,rfl,id⟩
 ·cases e
end
structure FamN (P:Program) (gl:Glob) where
 I:Type
 f:Nat
 G:I->Prop
 A:I->List AV
 R:I->AV
 N:I->Z00
 body:Z0b P f=true
 inj:∀i j,G i->G j->A i=A j->R i=R j/\N i=N j
 ok:∀i,G i->refsL (A i) []=[]/\(∀o∈N i,o.alive=true)/\ZeT P gl f (A i) (R i) (N i)
theorem Z6W {P : Program} {gl : Glob} (F : FamN P gl) {O : Orc} (hO : OrcSound P gl O) : ∃ O', OrcSound P gl O' /\ (∀ i, F.G i -> ∀ H, Z08 P O' H F.f (F.A i) = some (ren (· + H.length) (F.R i), H ++ shA H.length (F.N i))) /\
  ∀g,g≠F.f->∀args H,Z08 P O' H g args=Z08 P O H g args:=by
 refine⟨Z29 (ZeW F.G (λ_=>F.f) F.A F.R F.N) O,Z12 (Z8H F.ok) hO,λi hi H=>Z49 F.body ?_,λg hg args H=>?_⟩
 · unfold Z08
   rw[if_pos F.body]
   unfold ZeW
   have h:∃j,F.G j/\F.f=F.f/\F.A j=F.A i:=⟨i,hi,rfl,rfl⟩
   rw[dif_pos h]
   obtain⟨h1,_,h3⟩:=Classical.choose_spec h
   obtain⟨e1,e2⟩:=F.inj _ _ h1 hi h3
   rw[e1,e2]
 · unfold Z08
   have:∀args H,Z29 (ZeW F.G (λ_=>F.f) F.A F.R F.N) O g args H=O g args H:=λargs H=>by
    unfold Z29 ZeW
    rw[dif_neg (λ⟨j,_,h2,_⟩=>hg h2.symm)]
   have hy:yl (Z29 (ZeW F.G (λ_=>F.f) F.A F.R F.N) O) H g args=yl O H g args:=by unfold yl;simp only[this]
   rw[this,hy]
end Go.Abs
end
section
namespace Go.Abs
open Go.RowKit
theorem Z0y{H:Z00}{k:Z00->Prop}(h:k H):frcHW H k:=by rw[Z07];exact h
theorem Z8Y{H H':Z00}{k:Z00->Prop}(e:H=H')(h:k H'):frcHW H k:=by rw[Z07,e];exact h
theorem Z2r{o:Option (AV×Z00)}{r:AV}{H':Z00}{k:AV->Z00->Prop}(h:o=some (r,H'))(hk:k r H'):∃y,o=some y/\Z6V y.1 λr=>frcHW y.2 λH'=>k r H':=⟨_,h,by rw[Z25,Z07];exact hk⟩
theorem Z41{o:Option (List AV)}{cs':List AV}{F:List AV->Z00}{H':Z00}{k:Z00->Prop}(h:o=some cs')(e:F cs'=H')(hk:k H'):∃cs',o=some cs'/\frcHW (F cs') k:=⟨_,h,by rw[Z07,e];exact hk⟩
theorem Z0K{n:Nat}{k:Nat->Prop}(h:k n):frcNP n k:=by rw[Z3v];exact h
theorem Zak{α : Type}{o:Option α}{x : α}{k : α -> Prop}(e:o=some x)(h:k x):onO o k:=by rw[e];exact h
mutual
theorem ZfA(f g:Nat->Nat):∀u:AV,ren f (ren g u)=ren (λb=>f (g b)) u
 | .ptr b off=>rfl
 | .slice b off len cap z=>rfl
 | .map b=>rfl
 | .func fn a b=>by simp only[ren,renL_renL f g a,renL_renL f g b]
 | .iface t v=>by simp only[ren,ZfA f g v]
 | .agg cs=>by simp only[ren,renL_renL f g cs]
 | .tuple cs=>by simp only[ren,renL_renL f g cs]
 | .bool b=>rfl
 | .int k n=>rfl
 | .str s=>rfl
 | .nptr=>rfl
 | .rp cs=>rfl
 | .nslice=>rfl
 | .rs n z cs=>rfl
 | .nmap=>rfl
 | .nfunc=>rfl
 | .niface=>rfl
theorem renL_renL(f g:Nat->Nat):∀l:List AV,renL f (renL g l)=renL (λb=>f (g b)) l
 |[]=>rfl
 |a::l=>by simp only[renL,ZfA f g a,renL_renL f g l]
end
theorem Z2F(f:Nat->Nat):∀a b:List AV,renL f (a++b)=renL f a++renL f b
 |[],b=>rfl
 |x::a,b=>by simp only[Y0i,renL,Z2F f a b]
def ClO(n i:Nat)(o:AObj):Prop:=o.alive=true/\o.fam=i/\o.sh=0/\∃cs ty,o.body = .cells cs ty/\Z0e n (refsL cs [])=true
def ClT(n d:Nat)(X:Z00):Prop:=∀i o,X[i]? = some o->ClO n (d+i) o
theorem ClT.cons{n d:Nat}{o:AObj}{X:Z00}(h:ClO n d o)(hX:ClT n (d+1) X):ClT n d (o::X):=λi x hi=>by
 cases i with
 |zero=>simp only[Y0w,Option.some.injEq]at hi;subst hi;exact h
 |succ i=>have:=hX i x (by simpa using hi);rwa [show d+1+i=d+(i+1) from by omega]at this
theorem ClT.nil{n d:Nat}:ClT n d []:=λi o hi=>by cases hi
theorem ClT.app{n d e:Nat}{X Y:Z00}(h:ClT n d X)(k:ClT n e Y)(he:e=d+X.length):ClT n d (X++Y):=λi o hi=>by
 subst he
 by_cases hl:i<X.length
 ·rw[Y0d hl]at hi;exact h i o hi
 · rw[Y08 (by omega)]at hi
   have:=k _ o hi
   rwa [show d+X.length+(i-X.length)=d+i from by omega]at this
theorem Za7{n m:Nat}(h:n<=m):∀{l:List Nat},Z0e n l=true->Z0e m l=true
 |[],_=>rfl
 |i::l,e=>by
  simp only[Z0e,Y0B]at e⊢
  refine⟨?_,Za7 h e.2⟩
  have h1:i+1<=n:=by simpa[Nat.blt]using e.1
  simp[Nat.blt];omega
theorem ClT.le{n m d:Nat}{X:Z00}(h:ClT n d X)(hm:n<=m):ClT m d X:=λi o hi=>by
 obtain⟨h1,h2,h3,cs,ty,h4,h5⟩:=h i o hi
 exact⟨h1,h2,h3,cs,ty,h4,Za7 hm h5⟩
mutual
theorem Zd5(f:Nat->Nat):∀(u:AV)(a b:List Nat),(∀x∈a,x∈b.map f)->∀x∈refs (ren f u) a,x∈(refs u b).map f
 | .ptr b off,a,c,h,x,hx=>by
  simp only[ren,refs,Y0C,Y0r]at hx⊢
  exact hx.imp id (h x)
 | .slice b off len cap z,a,c,h,x,hx=>by
  simp only[ren,refs,Y0C,Y0r]at hx⊢
  exact hx.imp id (h x)
 | .map b,a,c,h,x,hx=>by
  simp only[ren,refs,Y0C,Y0r]at hx⊢
  exact hx.imp id (h x)
 | .func fn p q,a,c,h,x,hx=>by
  simp only[ren,refs]at hx⊢
  exact refsL_ren f p _ _ (refsL_ren f q a c h) x hx
 | .iface t v,a,c,h,x,hx=>by simp only[ren,refs]at hx⊢;exact Zd5 f v a c h x hx
 | .agg cs,a,c,h,x,hx=>by simp only[ren,refs]at hx⊢;exact refsL_ren f cs a c h x hx
 | .tuple cs,a,c,h,x,hx=>by simp only[ren,refs]at hx⊢;exact refsL_ren f cs a c h x hx
 | .bool b,a,c,h,x,hx=>h x hx
 | .int k n,a,c,h,x,hx=>h x hx
 | .str s,a,c,h,x,hx=>h x hx
 | .nptr,a,c,h,x,hx=>h x hx
 | .rp cs,a,c,h,x,hx=>h x hx
 | .nslice,a,c,h,x,hx=>h x hx
 | .rs n z cs,a,c,h,x,hx=>h x hx
 | .nmap,a,c,h,x,hx=>h x hx
 | .nfunc,a,c,h,x,hx=>h x hx
 | .niface,a,c,h,x,hx=>h x hx
theorem refsL_ren(f:Nat->Nat):∀(l:List AV)(a b:List Nat),(∀x∈a,x∈b.map f)->∀x∈refsL (renL f l) a,x∈(refsL l b).map f
 |[],a,b,h,x,hx=>h x hx
 |u::l,a,b,h,x,hx=>by
  simp only[renL,refsL]at hx⊢
  exact Zd5 f u _ _ (refsL_ren f l a b h) x hx
end
theorem Z17{n d:Nat}{cs:List AV}(h:Z0e n (refsL cs [])=true):Z0e (n+d) (refsL (renL (· + d) cs) [])=true:=by
 refine Z5s λx hx=>?_
 have:=refsL_ren (· + d) cs [] [] (λx hx=>by cases hx) x hx
 obtain⟨y,hy,rfl⟩:=List.mem_map.1 this
 have:=Z1n h y hy
 omega
theorem Z6f:∀(a b:List AV)(acc:List Nat),refsL (a++b) acc=refsL a (refsL b acc)
 |[],b,acc=>rfl
 |x::a,b,acc=>by simp only[Y0i,refsL,Z6f a b acc]
mutual
theorem Z5F:∀(u:AV)(acc:List Nat)(x:Nat),x∈refs u acc ↔ x∈refs u []\/x∈acc
 | .ptr b off,acc,x=>by simp[refs]
 | .slice b off len cap z,acc,x=>by simp[refs]
 | .map b,acc,x=>by simp[refs]
 | .func fn p q,acc,x=>by simp only[refs];rw[refsL_split p _ x,refsL_split q acc x,refsL_split p (refsL q []) x,or_assoc]
 | .iface t v,acc,x=>by simp only[refs];exact Z5F v acc x
 | .agg cs,acc,x=>by simp only[refs];exact refsL_split cs acc x
 | .tuple cs,acc,x=>by simp only[refs];exact refsL_split cs acc x
 | .bool b,acc,x=>by simp[refs]
 | .int k n,acc,x=>by simp[refs]
 | .str s,acc,x=>by simp[refs]
 | .nptr,acc,x=>by simp[refs]
 | .rp cs,acc,x=>by simp[refs]
 | .nslice,acc,x=>by simp[refs]
 | .rs n z cs,acc,x=>by simp[refs]
 | .nmap,acc,x=>by simp[refs]
 | .nfunc,acc,x=>by simp[refs]
 | .niface,acc,x=>by simp[refs]
theorem refsL_split:∀(l:List AV)(acc:List Nat)(x:Nat),x∈refsL l acc ↔ x∈refsL l []\/x∈acc
 |[],acc,x=>by simp[refsL]
 |u::l,acc,x=>by simp only[refsL];rw[Z5F u _ x,refsL_split l acc x,Z5F u (refsL l []) x,or_assoc]
end
theorem ClT.sh{n e d:Nat}{X:Z00}(h:ClT n e X):ClT (n+d) (e+d) (shA d X):=λi o hi=>by
 obtain⟨o0,h0,rfl⟩:=Zfs hi
 obtain⟨h1,h2,h3,cs,ty,h4,h5⟩:=h i o0 h0
 refine⟨h1,by show o0.fam+d=_;omega,h3,renL (· + d) cs,ty,by show Zaj _ o0.body=_;rw[h4];rfl,Z17 h5⟩
theorem Z0a(d:Nat)(X:Z00):(shA d X).length=X.length:=by simp[shA]
theorem Z9r(d:Nat)(X Y:Z00):shA d (X++Y)=shA d X++shA d Y:=by simp[shA]
theorem Z7h{n e a b:Nat}{X:Z00}(h:ClT n e X):shA a (shA b X)=shA (b+a) X:=by
 unfold shA
 rw[List.map_map]
 refine List.map_congr_left λo ho=>?_
 obtain⟨i,hi⟩:=Y0U ho
 obtain⟨h1,h2,h3,cs,ty,h4,h5⟩:=h i o hi
 simp only[Function.comp,shO,h4,Zaj,renL_renL,Y0y]
def Keeps(m:List Nat)(n:Nat):Prop:=∀b,b<n->m[b]? = some b
theorem Zk1{sn:Z0h}{ι ι':Z0g}{cs:List AV}{n:Nat}(hcs:Z0e n (refsL cs [])=true){i:Nat}{c:AV}(hc:cs[i]? = some c)(h:∀b,b<n->∀p,ι b=some p -> ι' b=some p){v:Value}(hv:VR sn ι c v):VR sn ι' c v:=by
 obtain⟨acc,ha⟩:=ZaD cs [] i c hc
 exact Z1h c acc v (λb hb p hp=>h b (Z1n hcs b (ha b hb)) p hp) hv
theorem HpGe.app{H:Z00}{m:List Nat}:∀{a:List Nat}{A:Z00}{i:Nat}{b:List Nat}{B:Z00},HpGe H m a A i->HpGe H m b B (i+a.length)->HpGe H m (a++b) (A++B) i
 |[],[],i,b,B,h,k=>by simpa using k
 |j::a,o::A,i,b,B,h,k=>by
  refine⟨h.1,HpGe.app h.2 ?_⟩
  rwa [show i+1+a.length=i+(j::a).length from by simp;omega]
 |[],_::_,i,b,B,h,k=>h.elim
 |_::_,[],i,b,B,h,k=>h.elim
theorem BodyGe.mv{m:List Nat}{d d2 n:Nat}{cs:List AV}{ty:TypeId}(h5:Z0e n (refsL cs [])=true)(hm:∀i,i<n->m[d2+i]? = some (d+i)):BodyGe m (.cells (renL (· + d) cs) ty) (.cells (renL (· + d2) cs) ty):=by
 refine⟨rfl,by simp[Z0O],λi c2 hc2=>?_⟩
 rw[Z0p]at hc2
 cases hc:cs[i]? with
 |none=>rw[hc]at hc2;cases hc2
 |some c =>
  rw[hc]at hc2
  simp only[Y0G,Option.some.injEq]at hc2
  subst hc2
  refine⟨ren (· + d) c,by rw[Z0p,hc];rfl,λsn ι v hv=>?_⟩
  rw[Z5x]at hv⊢
  exact Zk1 h5 hc (λb hb p hp=>by
   have:=hm b hb
   rw[Y0o]at this
   simp only[iot,this]
   rw[Y0o];exact hp) hv
theorem Z5P{H:Z00}{m:List Nat}{d d2:Nat}{X:Z00}(hX:ClT X.length 0 X)(hH:∀i o,X[i]? = some o->H[d+i]? = some (shO d o))(hm:∀i,i<X.length->m[d2+i]? = some (d+i)):HpGe H m (List.range' d X.length) (shA d2 X) d2:=by
 have key:∀(Y:Z00)(k:Nat),(∀i o,Y[i]? = some o->X[k+i]? = some o)->HpGe H m (List.range' (d+k) Y.length) (shA d2 Y) (d2+k):=by
  intro Y
  induction Y with
  |nil=>intro k _;exact trivial
  |cons o Y ih =>
   intro k hk
   have h0:X[k]? = some o:=by simpa using hk 0 o rfl
   obtain⟨h1,h2,h3,cs,ty,h4,h5⟩:=hX k o h0
   rw[Y04,Y0V]
   refine⟨?_,?_⟩
   · refine Zak (hH k o h0) ⟨h1,h1,by show o.fam+d2=_;omega,rfl,?_⟩
     show BodyGe m (Zaj (· + d) o.body) (Zaj (· + d2) o.body)
     rw[h4]
     exact BodyGe.mv h5 hm
   · have := ih (k + 1) fun i x hi => by
      have:=hk (i+1) x (by simpa using hi)
      rwa [show k+(i+1)=k+1+i from by omega]at this
     exact this
 have:=key X 0 λi o h=>by rwa [Y0b]
 simpa using this
theorem Z5M{x d n:Nat}:mem x (List.range' d n)=true ↔ d<=x/\x<d+n:=by
 rw[mem_iff,Y0M]
theorem Z1X:∀(n d:Nat),Z0H (List.range' d n)=true
 |0,d=>rfl
 |n+1,d=>by
  rw[Y0V]
  simp only[Z0H,Y0B,Y0H]
  refine⟨?_,Z1X n (d+1)⟩
  cases h:mem d (List.range' (d+1) n) with
  |false=>rfl
  |true=>have:=Z5M.1 h;omega
theorem Z5L:∀{a b:List Nat},Z0H a=true->Z0H b=true->(∀x∈a,mem x b=false)->Z0H (a++b)=true
 |[],b,_,h,_=>h
 |x::a,b,ha,hb,h=>by
  simp only[Z0H,Y0B,Y0H,Y0i]at ha⊢
  refine⟨?_,Z5L ha.2 hb λy hy=>h y (by simp[hy])⟩
  cases hm:mem x (a++b) with
  |false=>rfl
  |true =>
   rcases List.mem_append.1 (mem_iff.1 hm)with h1|h1
   ·rw[mem_iff.2 h1]at ha;cases ha.1
   ·have:=h x (by simp);rw[mem_iff.2 h1]at this;cases this
theorem Z9Q{H:Z00}{d:Nat}{X:Z00}(hX:ClT X.length 0 X)(hH:∀i o,X[i]? = some o->H[d+i]? = some (shO d o)):(List.range' d X.length).map (Z1b H)=List.range' d X.length:=by
 refine Y0W λi=>?_
 rw[Y0T]
 by_cases hi:i<X.length
 · rw[Y0x hi]
   have h0:X[i]? = some X[i]:=Y0j hi
   obtain⟨h1,h2,_⟩:=hX i _ h0
   simp only[Y0G,Option.some.injEq,Nat.one_mul]
   unfold Z1b
   rw[hH i _ h0]
   show X[i].fam+d=_
   omega
 · have:(List.range' d X.length)[i]? = none:=List.getElem?_eq_none (by simp;omega)
   rw[this];rfl
theorem Z6N{H:Z00}{ml:List Nat}{d:Nat}{X:Z00}(hX:ClT X.length 0 X)(hH:∀i o,X[i]? = some o->H[d+i]? = some (shO d o))(h1:Z0H (ml.map (Z1b H))=true)(h2:∀f∈ml.map (Z1b H),f<d\/d+X.length<=f):Z0H ((ml++List.range' d X.length).map (Z1b H))=true:=by
 rw[Y0X,Z9Q hX hH]
 refine Z5L h1 (Z1X _ _) λx hx=>?_
 cases h:mem x (List.range' d X.length) with
 |false=>rfl
 |true=>have:=Z5M.1 h;have:=h2 x hx;omega
theorem Z4R{H:Z00}{b f:Nat}(h:∀i o,H[i]? = some o->i≠b->o.fam≠f):Z30 b f H=H:=by
 unfold Z30
 refine Y0W λi=>?_
 rw[Z2p]
 cases hi:H[i]? with
 |none=>rfl
 |some o =>
  simp only[Y0G,Y0b,Option.some.injEq]
  by_cases hb:i=b
  ·subst hb;simp
  · have:=h i o hi hb
    rw[if_neg]
    simp[hb,this]
theorem Z84{L:Z00}{d:Nat}{X:Z00}(hd:L.length=d)(i:Nat)(o:AObj)(h:X[i]? = some o):(L++shA d X)[d+i]? = some (shO d o):=by
 subst hd
 rw[Y08 (by omega),Y0z]
 simp[shA,h]
theorem Z70{L R:Z00}{d:Nat}{X:Z00}(hd:L.length=d)(i:Nat)(o:AObj)(h:X[i]? = some o):(L++(shA d X++R))[d+i]? = some (shO d o):=by
 subst hd
 rw[Y08 (by omega),Y0z,Y0d (by rw[Z0a];exact (Y0e.1 h).1)]
 simp[shA,h]
theorem ZaP{ml:List Nat}{d d2 n:Nat}(h:ml.length=d2)(i:Nat)(hi:i<n):(ml++List.range' d n)[d2+i]? = some (d+i):=by
 subst h
 rw[Y08 (by omega),Y0z,Y0x hi,Nat.one_mul]
theorem BodyGe.keep{m:List Nat}{n:Nat}{cs:List AV}{ty:TypeId}(hm:Keeps m n)(h:Z0e n (refsL cs [])=true):BodyGe m (.cells cs ty) (.cells cs ty) :=
 ⟨rfl,Y01 _,λi c2 hc=>⟨c2,hc,λsn ι v hv=>Zk1 h hc (λb hb p hp=>by simp only[iot,hm b hb];exact hp) hv⟩⟩
theorem Keeps.range'(n:Nat):Keeps (List.range' 0 n) n:=λb hb=>by rw[Y0x hb];simp
theorem Zci{H:Z00}(h:ClT H.length 0 H):HpGe H (List.range' 0 H.length) (List.range' 0 H.length) H 0:=by
 have key:∀(Y:Z00)(k:Nat),(∀i o,Y[i]? = some o->H[k+i]? = some o)->HpGe H (List.range' 0 H.length) (List.range' k Y.length) Y k:=by
  intro Y
  induction Y with
  |nil=>intro k _;exact trivial
  |cons o Y ih =>
   intro k hk
   have h0:H[k]? = some o:=by simpa using hk 0 o rfl
   obtain⟨h1,h2,h3,cs,ty,h4,h5⟩:=h k o h0
   rw[Y04,Y0V]
   refine⟨Zak h0 ⟨h1,h1,by omega,rfl,?_⟩,ih (k+1) λi x hi=>?_⟩
   ·rw[h4];exact BodyGe.keep (Keeps.range' _) h5
   · have:=hk (i+1) x (by simpa using hi)
     rwa [show k+(i+1)=k+1+i from by omega]at this
 exact key H 0 λi o hi=>by rwa [Y0b]
theorem Z9R{H:Z00}(h:ClT H.length 0 H):Z0H ((List.range' 0 H.length).map (Z1b H))=true:=by
 have:(List.range' 0 H.length).map (Z1b H)=List.range' 0 H.length:=by
  refine Y0W λi=>?_
  rw[Y0T]
  by_cases hi:i<H.length
  · rw[Y0x hi]
    have h0:H[i]? = some H[i]:=Y0j hi
    obtain⟨h1,h2,_⟩:=h i _ h0
    simp only[Y0G,Option.some.injEq,Nat.one_mul,Y0b]at h2⊢
    unfold Z1b
    rw[h0]
    exact h2
  ·rw[List.getElem?_eq_none (by simp;omega)];rfl
 rw[this]
 exact Z1X _ _
theorem FgLK.keep{k:Nat}{t0 tm:Tr}{H:Z00}{l:List (Nat×AV)}(hC:ClT H.length 0 H)(hk:ZhA k 0 (List.range' 0 H.length)=true)(h:ZbI t0 tm=true)(h1:SlotsGe (List.range' 0 H.length) tm l):FgLK k t0 tm H l H:=by
 unfold FgLK;rw[h];exact .inl ⟨_,hk,h1,Zci hC,Z9R hC⟩
theorem Zmk{n:Nat}{H:Z00}(h:ClT n 0 H)(b:Nat):Z30 b b H=H:=Z4R λi o hi hne=>by
 have:=(h i o hi).2.1
 omega
end Go.Abs
end
namespace Go.Proofs.YtajhailaofchlaaDoor.lex
open Go.Abs Go.RowKit
section
def ap(X N:Z00):Z00:=X++shA X.length N
theorem Z1m(X N:Z00):(ap X N).length=X.length+N.length:=by unfold ap;rw[Y0a,Z0a]
def mkB(ty:TypeId)(p:List AV×Z00):Z00:=⟨true,0,0,.cells (renL (· + 1) p.1) ty⟩::shA 1 p.2
theorem Zcd(ty:TypeId)(p:List AV×Z00):(mkB ty p).length=p.2.length+1:=by unfold mkB;rw[Y04,Z0a]
def Zh8:Ex->Nat->List AV
 | .mk o n s k,b=>[.int .i64 o,.int .i64 n,.str s,.slice b 0 k.length k.length 4]
mutual
def Za3:Ex->Z00
 | .mk _ _ _ k=>mkB 36 (dupL k [] [])
def dupL:List Ex->List AV->Z00->List AV×Z00
 |[],cs,X=>(cs,X)
 |e::l,cs,X=>dupL l (cs++Zh8 e X.length) (ap X (Za3 e))
end
def Z0q(l:List Ex):Z00:=mkB 36 (dupL l [] [])
theorem Za2:∀e:Ex,Za3 e=Z0q e.kids
 | .mk _ _ _ k=>by simp only[Za3,Z0q,Ex.kids]
def Gd(p:List AV×Z00):Prop:=ClT p.2.length 0 p.2/\Z0e p.2.length (refsL p.1 [])=true
theorem Gd.nil:Gd ([],[]):=⟨ClT.nil,rfl⟩
theorem ZaN{ty:TypeId}{p:List AV×Z00}(h:Gd p):ClT (mkB ty p).length 0 (mkB ty p):=by
 rw[Zcd]
 refine ClT.cons ⟨rfl,rfl,rfl,_,_,rfl,Z17 h.2⟩ ?_
 have:=h.1.sh (d:=1)
 simpa using this
theorem Zj8{X N:Z00}(hX:ClT X.length 0 X)(hN:ClT N.length 0 N):ClT (ap X N).length 0 (ap X N):=by
 rw[Z1m]
 refine (hX.le (Nat.le_add_right _ _)).app (e:=X.length) ?_ (by simp)
 have:=hN.sh (d:=X.length)
 rw[Y0b,Y0o]at this
 exact this
theorem Z5t{n:Nat}{a b:List AV}(ha:Z0e n (refsL a [])=true)(hb:Z0e n (refsL b [])=true):Z0e n (refsL (a++b) [])=true:=by
 rw[Z6f]
 have key:∀(l:List AV)(acc:List Nat),Z0e n (refsL l [])=true->Z0e n acc=true->Z0e n (refsL l acc)=true:=by
  intro l acc h1 h2
  refine Z5s λx hx=>?_
  rcases (refsL_split l acc x).1 hx with h|h
  ·exact Z1n h1 x h
  ·exact Z1n h2 x h
 exact key a _ ha hb
theorem Gd.step{cs c:List AV}{X N:Z00}(h:Gd (cs,X))(hN:ClT N.length 0 N)(hc:Z0e (ap X N).length (refsL c [])=true):Gd (cs++c,ap X N):=by
 refine⟨Zj8 h.1 hN,?_⟩
 exact Z5t (Za7 (by show X.length<=(ap X N).length;rw[Z1m];omega) h.2) hc
theorem ZaI{b n:Nat}(h:b<n):Z0e n [b]=true:=by simp[Z0e,Nat.blt];omega
mutual
theorem Zgr:∀e:Ex,ClT (Za3 e).length 0 (Za3 e)
 | .mk o n s k=>by
  simp only[Za3]
  exact ZaN (dupL_gd k [] [] Gd.nil)
theorem dupL_gd:∀(l:List Ex)(cs:List AV)(X:Z00),Gd (cs,X)->Gd (dupL l cs X)
 |[],cs,X,h=>by simp only[dupL];exact h
 |e::l,cs,X,h=>by
  simp only[dupL]
  refine dupL_gd l _ _ (h.step (Zgr e) ?_)
  have hp:0<(Za3 e).length:=by
   rw[Za2];unfold Z0q;rw[Zcd];omega
  obtain⟨o,n,s,k⟩:=e
  exact ZaI (by rw[Z1m];omega)
end
theorem Z2v(l:List Ex):ClT (Z0q l).length 0 (Z0q l):=ZaN (dupL_gd l [] [] Gd.nil)
theorem Z7X:∀(a:List Ex)(e:Ex)(cs:List AV)(X:Z00),dupL (a++[e]) cs X=((dupL a cs X).1++Zh8 e (dupL a cs X).2.length,ap (dupL a cs X).2 (Za3 e))
 |[],e,cs,X=>by simp only[Y0h,dupL]
 |x::a,e,cs,X=>by simp only[Y0i,dupL,Z7X a e]
theorem Zj2:∀(e:Ex)(b:Nat),(Zh8 e b).length=4
 | .mk _ _ _ _,b=>rfl
theorem Z3x:∀(l:List Ex)(cs:List AV)(X:Z00),(dupL l cs X).1.length=cs.length+l.length*4
 |[],cs,X=>by simp only[dupL];simp
 |e::l,cs,X=>by simp only[dupL,Z3x l,Y0a,Zj2,Y04];omega
def tlE(l:List Ex)(i:Nat):Z00:=(dupL (l.take i) [] []).2
def cpE(l:List Ex)(i:Nat):List AV:=renL (· + 1) (dupL (l.take i) [] []).1++Z1a (l.length-i) [.int .i64 0,.int .i64 0,.str [],.nslice]
theorem ZhN(l:List Ex)(i:Nat)(h:i<l.length):tlE l (i+1)=ap (tlE l i) (Z0q l[i].kids):=by
 unfold tlE
 rw[Y0s,Y0j h,Y0t,Z7X,Za2]
theorem ZdI(l:List Ex):cpE l 0=Z1a l.length [.int .i64 0,.int .i64 0,.str [],.nslice]:=by simp only[cpE,Y0E,dupL,renL,Y0h,Y0K]
theorem ZgD(l:List Ex):(⟨true,0,0,.cells (cpE l l.length) 36⟩:AObj)::shA 1 (tlE l l.length)=Z0q l:=by
 unfold cpE tlE Z0q mkB
 rw[Y0u,Y0v]
 simp[Z1a]
theorem ZcU(l:List Ex)(i:Nat):Gd ((dupL (l.take i) [] []).1,tlE l i):=dupL_gd _ _ _ Gd.nil
theorem Zn8(l:List Ex)(i:Nat):Z0e ((tlE l i).length+1) (refsL (cpE l i) [])=true:=by
 unfold cpE
 refine Z5t (Z17 (ZcU l i).2) ?_
 rw[Z06 (Z0w _ rfl _)]
 rfl
theorem ZnW(l:List Ex)(i:Nat):ClT ((⟨true,0,0,.cells (cpE l i) 36⟩:AObj)::shA 1 (tlE l i)).length 0 (⟨true,0,0,.cells (cpE l i) 36⟩::shA 1 (tlE l i)):=by
 rw[Y04,Z0a]
 refine ClT.cons ⟨rfl,rfl,rfl,_,_,rfl,Zn8 l i⟩ ?_
 have:=(ZcU l i).1.sh (d:=1)
 simpa using this
theorem Zj9{L X N:Z00}{d:Nat}(hd:L.length=d)(hN:ClT N.length 0 N):(L++shA d X)++shA (L++shA d X).length N=L++shA d (ap X N):=by
 have:(L++shA d X).length=X.length+d:=by rw[Y0a,Z0a,hd];omega
 rw[this,Y02]
 unfold ap
 rw[Z9r,Z7h hN]
end
section
def sX:St->List Ex
 | .mk _ _ _ _ x _ _=>x
def sT:St->List St
 | .mk _ _ _ _ _ t _=>t
def sE:St->List St
 | .mk _ _ _ _ _ _ e=>e
def Zbl:St->Nat->Nat->Nat->List AV
 | .mk k n lc o x t e,b1,b2,b3=>[.int .i64 k,.str n,.str lc,.int .i64 o,.slice b1 0 x.length x.length 4,.slice b2 0 t.length t.length 7,.slice b3 0 e.length e.length 7]
mutual
def Z2B:St->Z00×Z00
 | .mk _ _ _ _ _ t e=>(mkB 30 (dupSL t [] []),mkB 30 (dupSL e [] []))
def dupSL:List St->List AV->Z00->List AV×Z00
 |[],cs,X=>(cs,X)
 |s::l,cs,X=>dupSL l (cs++Zbl s X.length (ap X (Z0q (sX s))).length (ap (ap X (Z0q (sX s))) (Z2B s).1).length) (ap (ap (ap X (Z0q (sX s))) (Z2B s).1) (Z2B s).2)
end
def Z10(l:List St):Z00:=mkB 30 (dupSL l [] [])
theorem Z7W:∀s:St,Z2B s=(Z10 (sT s),Z10 (sE s))
 | .mk _ _ _ _ _ t e=>by simp only[Z2B,Z10,sT,sE]
theorem ZhO{a b c n:Nat}(h1:a<n)(h2:b<n)(h3:c<n):Z0e n [a,b,c]=true:=by simp[Z0e,Nat.blt];omega
theorem Z2U{ty:TypeId}{p:List AV×Z00}:0<(mkB ty p).length:=by rw[Zcd];omega
theorem Z5l(l:List Ex):0<(Z0q l).length:=Z2U
mutual
theorem Zgq:∀s:St,ClT (Z2B s).1.length 0 (Z2B s).1/\ClT (Z2B s).2.length 0 (Z2B s).2
 | .mk _ _ _ _ x t e=>by
  simp only[Z2B]
  exact⟨ZaN (dupSL_gd t [] [] Gd.nil),ZaN (dupSL_gd e [] [] Gd.nil)⟩
theorem dupSL_gd:∀(l:List St)(cs:List AV)(X:Z00),Gd (cs,X)->Gd (dupSL l cs X)
 |[],cs,X,h=>by simp only[dupSL];exact h
 |s::l,cs,X,h=>by
  simp only[dupSL]
  have h1:=Zgq s
  have h2:=Z2v (sX s)
  refine dupSL_gd l _ _ ?_
  have p1:=Z5l (sX s)
  have p2:0<(Z2B s).1.length:=by rw[Z7W];exact Z2U
  have p3:0<(Z2B s).2.length:=by rw[Z7W];exact Z2U
  have g1:Gd (cs++[],ap X (Z0q (sX s))):=h.step h2 rfl
  rw[Y0m]at g1
  have g2:Gd (cs++[],ap (ap X (Z0q (sX s))) (Z2B s).1):=g1.step h1.1 rfl
  rw[Y0m]at g2
  refine g2.step h1.2 ?_
  have e1:=Z1m X (Z0q (sX s))
  have e2:=Z1m (ap X (Z0q (sX s))) (Z2B s).1
  have e3:=Z1m (ap (ap X (Z0q (sX s))) (Z2B s).1) (Z2B s).2
  obtain⟨k,n,lc,o,x,t,e⟩:=s
  exact ZhO (by omega) (by omega) (by omega)
end
theorem Z2u(l:List St):ClT (Z10 l).length 0 (Z10 l):=ZaN (dupSL_gd l [] [] Gd.nil)
def nxS(p:List AV×Z00)(s:St):List AV×Z00:=(p.1++Zbl s p.2.length (ap p.2 (Z0q (sX s))).length (ap (ap p.2 (Z0q (sX s))) (Z10 (sT s))).length,ap (ap (ap p.2 (Z0q (sX s))) (Z10 (sT s))) (Z10 (sE s)))
theorem Z5Y:∀(a:List St)(s:St)(cs:List AV)(X:Z00),dupSL (a++[s]) cs X=nxS (dupSL a cs X) s
 |[],s,cs,X=>by simp only[Y0h,dupSL,nxS,Z7W]
 |x::a,s,cs,X=>by simp only[Y0i,dupSL,Z5Y a s]
theorem Z6Z:∀(s:St)(a b c:Nat),(Zbl s a b c).length=7
 | .mk _ _ _ _ _ _ _,_,_,_=>rfl
theorem Z2s:∀(l:List St)(cs:List AV)(X:Z00),(dupSL l cs X).1.length=cs.length+l.length*7
 |[],cs,X=>by simp only[dupSL];simp
 |s::l,cs,X=>by simp only[dupSL,Z2s l,Y0a,Z6Z,Y04];omega
def tlS(l:List St)(i:Nat):Z00:=(dupSL (l.take i) [] []).2
def cpS(l:List St)(i:Nat):List AV:=renL (· + 1) (dupSL (l.take i) [] []).1++Z1a (l.length-i) [.int .i64 0,.str [],.str [],.int .i64 0,.nslice,.nslice,.nslice]
theorem ZhM(l:List St)(i:Nat)(h:i<l.length):tlS l (i+1)=ap (ap (ap (tlS l i) (Z0q (sX l[i]))) (Z10 (sT l[i]))) (Z10 (sE l[i])):=by
 unfold tlS
 rw[Y0s,Y0j h,Y0t,Z5Y]
 rfl
theorem ZdH(l:List St):cpS l 0=Z1a l.length [.int .i64 0,.str [],.str [],.int .i64 0,.nslice,.nslice,.nslice]:=by simp only[cpS,Y0E,dupSL,renL,Y0h,Y0K]
theorem ZgC(l:List St):(⟨true,0,0,.cells (cpS l l.length) 30⟩:AObj)::shA 1 (tlS l l.length)=Z10 l:=by
 unfold cpS tlS Z10 mkB
 rw[Y0u,Y0v]
 simp[Z1a]
theorem ZcT(l:List St)(i:Nat):Gd ((dupSL (l.take i) [] []).1,tlS l i):=dupSL_gd _ _ _ Gd.nil
theorem Zn7(l:List St)(i:Nat):Z0e ((tlS l i).length+1) (refsL (cpS l i) [])=true:=by
 unfold cpS
 refine Z5t (Z17 (ZcT l i).2) ?_
 rw[Z06 (Z0w _ rfl _)]
 rfl
theorem ZnV(l:List St)(i:Nat):ClT ((⟨true,0,0,.cells (cpS l i) 30⟩:AObj)::shA 1 (tlS l i)).length 0 (⟨true,0,0,.cells (cpS l i) 30⟩::shA 1 (tlS l i)):=by
 rw[Y04,Z0a]
 refine ClT.cons ⟨rfl,rfl,rfl,_,_,rfl,Zn7 l i⟩ ?_
 have:=(ZcT l i).1.sh (d:=1)
 simpa using this
def Z1r:List (List St)->List AV->Z00->List AV×Z00
 |[],cs,X=>(cs,X)
 |t::l,cs,X=>Z1r l (cs++[.slice X.length 0 t.length t.length 7]) (ap X (Z10 t))
theorem Z5X:∀(l:List (List St))(cs:List AV)(X:Z00),Gd (cs,X)->Gd (Z1r l cs X)
 |[],cs,X,h=>h
 |t::l,cs,X,h=>Z5X l _ _ (h.step (Z2u t) (ZaI (by rw[Z1m];have:0<(Z10 t).length:=Z2U;omega)))
theorem Z7V:∀(a:List (List St))(t:List St)(cs:List AV)(X:Z00),Z1r (a++[t]) cs X=((Z1r a cs X).1++[.slice (Z1r a cs X).2.length 0 t.length t.length 7],ap (Z1r a cs X).2 (Z10 t))
 |[],t,cs,X=>rfl
 |x::a,t,cs,X=>by simp only[Y0i,Z1r,Z7V a t]
theorem Z6X:∀(l:List (List St))(cs:List AV)(X:Z00),(Z1r l cs X).1.length=cs.length+l.length
 |[],cs,X=>by simp[Z1r]
 |s::l,cs,X=>by simp only[Z1r,Z6X l,Y0a,Y04,Y0D];omega
def tlT(l:List (List St))(i:Nat):Z00:=(Z1r (l.take i) [] []).2
def cpT(d:Nat)(l:List (List St))(i:Nat):List AV:=renL (· + d) (Z1r (l.take i) [] []).1++Z1a (l.length-i) [.nslice]
theorem ZhL(l:List (List St))(i:Nat)(h:i<l.length):tlT l (i+1)=ap (tlT l i) (Z10 l[i]):=by
 unfold tlT
 rw[Y0s,Y0j h,Y0t,Z7V]
theorem ZlH(d:Nat)(l:List (List St))(i k:Nat)(h:i<l.length)(hk:k=i*1):spl (cpT d l i) k [.slice ((tlT l i).length+d) 0 l[i].length l[i].length 7]=some (cpT d l (i+1)):=by
 have hl:(renL (· + d) (Z1r (l.take i) [] []).1).length=i*1:=by rw[Z0O,Z6X,Y0n,Y0p (by omega)];simp
 have e:l.length-i=(l.length-(i+1))+1:=by omega
 have e1:cpT d l i=renL (· + d) (Z1r (l.take i) [] []).1++([.nslice]++Z1a (l.length-(i+1)) [.nslice]):=by unfold cpT;rw[e];rfl
 rw[e1,hk,<- hl,ZhX _ [.nslice] _ [.slice ((tlT l i).length+d) 0 l[i].length l[i].length 7] rfl]
 congr 1
 unfold cpT
 rw[Y0s,Y0j h,Y0t,Z7V,Z2F,Y02]
 rfl
theorem ZdG(d:Nat)(l:List (List St)):cpT d l 0=Z1a l.length [.nslice]:=by simp only[cpT,Y0E,Z1r,renL,Y0h,Y0K]
theorem ZlI(d:Nat)(l:List (List St)):cpT d l l.length=renL (· + d) (Z1r l [] []).1:=by unfold cpT;rw[Y0u,Y0v];simp[Z1a]
theorem Zkf(l:List (List St)):tlT l l.length=(Z1r l [] []).2:=by unfold tlT;rw[Y0u]
theorem ZcS(l:List (List St))(i:Nat):Gd ((Z1r (l.take i) [] []).1,tlT l i):=Z5X _ _ _ Gd.nil
theorem Zn6(d:Nat)(l:List (List St))(i:Nat):Z0e ((tlT l i).length+d) (refsL (cpT d l i) [])=true:=by
 unfold cpT
 refine Z5t (Z17 (ZcS l i).2) ?_
 rw[Z06 (Z0w _ rfl _)]
 rfl
def ZjT(p:Pr):Z00:=⟨true,0,0,.cells (dcC p.decls) 53⟩::⟨true,1,0,.cells (renL (· + 2) (Z1r p.threads [] []).1) 28⟩::shA 2 (Z1r p.threads [] []).2
end
section
def CI(cs:List AV)(p:Nat):Prop:=∃v:Int,cs[p]? = some (.int .i64 v)
def Bk(X:Z00)(b:Nat)(ty:TypeId)(n:Nat)(cs:List AV):Prop:=X[b]? = some ⟨true,b,0,.cells cs ty⟩/\cs.length=n
def BlkI(X:Z00)(b z n:Nat)(ty:TypeId):Prop:=∃cs,Bk X b ty (n*z) cs/\∀i,i<n->CI cs (i*z)
def Zji(X:Z00)(b:Nat)(x:List Ex):Prop:=∃cs,Bk X b 36 (x.length*4) cs/\∀i (h:i<x.length),CI cs (i*4)/\CI cs (i*4+1)/\cs[i*4+2]? = some (.str x[i].name)/\∃k,cs[i*4+3]? = some (.slice k 0 x[i].kids.length x[i].kids.length 4)/\BlkI X k 4 x[i].kids.length 36
def ZoX(X:Z00)(cs:List AV)(i:Nat)(s:St):Prop:=CI cs (i*7)/\cs[i*7+1]? = some (.str s.name)/\cs[i*7+2]? = some (.str s.loc)/\CI cs (i*7+3) /\
 (∃a,cs[i*7+4]? = some (.slice a 0 (sX s).length (sX s).length 4)/\Zji X a (sX s))/\(∃a,cs[i*7+5]? = some (.slice a 0 (sT s).length (sT s).length 7)/\BlkI X a 7 (sT s).length 30)/\(∃a,cs[i*7+6]? = some (.slice a 0 (sE s).length (sE s).length 7)/\BlkI X a 7 (sE s).length 30)
def BlkS(X:Z00)(b:Nat)(l:List St):Prop:=∃cs,Bk X b 30 (l.length*7) cs/\∀i (h:i<l.length),ZoX X cs i l[i]
def Wr(X X':Z00):Prop:=∃b0 cs ty p v z,X[b0]? = some ⟨true,b0,0,.cells cs ty⟩/\cs[p]? = some (.int .i64 v)/\X'=X.set b0 ⟨true,b0,0,.cells (cs.set p (.int .i64 z)) ty⟩
def Sm(cs cs':List AV):Prop:=cs'.length=cs.length/\∀p u,cs[p]? = some u->cs'[p]? = some u\/((∃v:Int,u = .int .i64 v)/\CI cs' p)
theorem Sm.ci{cs cs':List AV}(h:Sm cs cs'){p:Nat}(k:CI cs p):CI cs' p:=by
 obtain⟨v,hv⟩:=k
 rcases h.2 p _ hv with h|⟨_,h⟩
 ·exact⟨v,h⟩
 ·exact h
theorem Sm.str{cs cs':List AV}(h:Sm cs cs'){p:Nat}{s:List UInt8}(k:cs[p]? = some (.str s)):cs'[p]? = some (.str s):=by
 rcases h.2 p _ k with h|⟨⟨v,h⟩,_⟩
 ·exact h
 ·cases h
theorem Sm.sl{cs cs':List AV}(h:Sm cs cs'){p a b c d e:Nat}(k:cs[p]? = some (.slice a b c d e)):cs'[p]? = some (.slice a b c d e):=by
 rcases h.2 p _ k with h|⟨⟨v,h⟩,_⟩
 ·exact h
 ·cases h
theorem Wr.at{X X':Z00}(h:Wr X X'){b:Nat}{ty:TypeId}{n:Nat}{cs:List AV}(k:Bk X b ty n cs):∃cs',Bk X' b ty n cs'/\Sm cs cs':=by
 obtain⟨b0,cs0,ty0,p,v,z,h1,h2,rfl⟩:=h
 by_cases e:b0=b
 · subst e
   have:=h1.symm.trans k.1
   simp only[Option.some.injEq,AObj.mk.injEq,ABody.cells.injEq,true_and]at this
   obtain⟨rfl,rfl⟩:=this
   refine⟨cs0.set p (.int .i64 z),⟨?_,by rw[Y0Y];exact k.2⟩,by rw[Y0Y],λq u hu=>?_⟩
   ·rw[Y0Z (Y0e.1 h1).1]
   · by_cases hq:p=q
     · subst hq
       rw[h2]at hu
       cases hu
       exact .inr ⟨⟨v,rfl⟩,z,by rw[Y0Z (Y0e.1 h2).1]⟩
     ·exact .inl (by rw[Y10 hq];exact hu)
 ·exact⟨cs,⟨by rw[Y10 e];exact k.1,k.2⟩,rfl,λq u hu=>.inl hu⟩
theorem Wr.i{X X':Z00}(h:Wr X X'){b z n:Nat}{ty:TypeId}(k:BlkI X b z n ty):BlkI X' b z n ty:=by
 obtain⟨cs,k1,k2⟩:=k
 obtain⟨cs',h1,h2⟩:=h.at k1
 exact⟨cs',h1,λi hi=>h2.ci (k2 i hi)⟩
theorem Wr.x{X X':Z00}(h:Wr X X'){b:Nat}{x:List Ex}(k:Zji X b x):Zji X' b x:=by
 obtain⟨cs,k1,k2⟩:=k
 obtain⟨cs',h1,h2⟩:=h.at k1
 refine⟨cs',h1,λi hi=>?_⟩
 obtain⟨a1,a2,a3,kk,a4,a5⟩:=k2 i hi
 exact⟨h2.ci a1,h2.ci a2,h2.str a3,kk,h2.sl a4,h.i a5⟩
theorem Wr.s{X X':Z00}(h:Wr X X'){b:Nat}{l:List St}(k:BlkS X b l):BlkS X' b l:=by
 obtain⟨cs,k1,k2⟩:=k
 obtain⟨cs',h1,h2⟩:=h.at k1
 refine⟨cs',h1,λi hi=>?_⟩
 obtain⟨a1,a2,a3,a4,⟨x,a5,a6⟩,⟨y,a7,a8⟩,⟨z,a9,a10⟩⟩:=k2 i hi
 exact⟨h2.ci a1,h2.str a2,h2.str a3,h2.ci a4,⟨x,h2.sl a5,h.x a6⟩,⟨y,h2.sl a7,h.i a8⟩,⟨z,h2.sl a9,h.i a10⟩⟩
theorem Wr.len{X X':Z00}(h:Wr X X'):X'.length=X.length:=by
 obtain⟨b0,cs0,ty0,p,v,z,h1,h2,rfl⟩:=h
 rw[Y0Y]
theorem Zdk:∀(cs:List AV)(p:Nat)(v z:Int),cs[p]? = some (.int .i64 v)->refsL (cs.set p (.int .i64 z)) []=refsL cs []
 |[],p,v,z,h=>by cases h
 |a::cs,0,v,z,h=>by
  simp only[Y0w,Option.some.injEq]at h
  subst h
  rfl
 |a::cs,p+1,v,z,h=>by
  simp only[Y0N,refsL]
  rw[Zdk cs p v z (by simpa using h)]
theorem Wr.cl{X X':Z00}(h:Wr X X'){n:Nat}(k:ClT n 0 X):ClT n 0 X':=by
 obtain⟨b0,cs0,ty0,p,v,z,h1,h2,rfl⟩:=h
 intro i o hi
 by_cases e:b0=i
 · subst e
   rw[Y0Z (Y0e.1 h1).1]at hi
   cases hi
   obtain⟨g1,g2,g3,cs,ty,g4,g5⟩:=k b0 _ h1
   cases g4
   exact⟨rfl,by simp,rfl,_,_,rfl,by rw[Zdk _ _ v z h2];exact g5⟩
 · rw[Y10 e]at hi
   exact k i o hi
def Emb(X:Z00)(d:Nat)(N:Z00):Prop:=∀i o,N[i]? = some o->X[d+i]? = some (shO d o)
theorem Emb.ap(X N:Z00):Emb (ap X N) X.length N:=λi o h=>by
 unfold lex.ap
 rw[Y08 (by omega),Y0z]
 simp[shA,h]
theorem Emb.more{X:Z00}{d:Nat}{N R:Z00}(h:Emb X d N):Emb (X++R) d N:=λi o hi=>by
 have:=h i o hi
 rw[Y0d (Y0e.1 this).1];exact this
theorem Emb.sh1(d:Nat)(L X:Z00)(hL:L.length=d):Emb (L++shA d X) d X:=λi o h=>Z84 hL i o h
theorem Emb.bk{X N:Z00}{d:Nat}(h:Emb X d N){b n:Nat}{ty:TypeId}{cs:List AV}(k:Bk N b ty n cs):Bk X (b+d) ty n (renL (· + d) cs):=by
 have:=h b _ k.1
 rw[Y0o]at this
 exact⟨this,by rw[Z0O];exact k.2⟩
theorem Z44{cs:List AV}{p:Nat}(f:Nat->Nat)(h:CI cs p):CI (renL f cs) p:=by
 obtain⟨v,hv⟩:=h
 exact⟨v,by rw[Z0p,hv];rfl⟩
theorem Emb.i{X N:Z00}{d:Nat}(h:Emb X d N){b z n:Nat}{ty:TypeId}(k:BlkI N b z n ty):BlkI X (b+d) z n ty:=by
 obtain⟨cs,k1,k2⟩:=k
 exact⟨_,h.bk k1,λi hi=>Z44 _ (k2 i hi)⟩
theorem Emb.x{X N:Z00}{d:Nat}(h:Emb X d N){b:Nat}{x:List Ex}(k:Zji N b x):Zji X (b+d) x:=by
 obtain⟨cs,k1,k2⟩:=k
 refine⟨_,h.bk k1,λi hi=>?_⟩
 obtain⟨a1,a2,a3,kk,a4,a5⟩:=k2 i hi
 exact⟨Z44 _ a1,Z44 _ a2,by rw[Z0p,a3];rfl,kk+d,by rw[Z0p,a4];rfl,h.i a5⟩
theorem Emb.s{X N:Z00}{d:Nat}(h:Emb X d N){b:Nat}{l:List St}(k:BlkS N b l):BlkS X (b+d) l:=by
 obtain⟨cs,k1,k2⟩:=k
 refine⟨_,h.bk k1,λi hi=>?_⟩
 obtain⟨a1,a2,a3,a4,⟨x,a5,a6⟩,⟨y,a7,a8⟩,⟨z,a9,a10⟩⟩:=k2 i hi
 exact⟨Z44 _ a1,by rw[Z0p,a2];rfl,by rw[Z0p,a3];rfl,Z44 _ a4,⟨x+d,by rw[Z0p,a5];rfl,h.x a6⟩,⟨y+d,by rw[Z0p,a7];rfl,h.i a8⟩,⟨z+d,by rw[Z0p,a9];rfl,h.i a10⟩⟩
theorem Z5j:∀(l:List Ex)(cs:List AV)(X:Z00),∃r R,dupL l cs X=(cs++r,X++R)
 |[],cs,X=>⟨[],[],by simp only[dupL,Y0m]⟩
 |e::l,cs,X=>by
  obtain⟨r,R,h⟩:=Z5j l (cs++Zh8 e X.length) (ap X (Za3 e))
  exact⟨Zh8 e X.length++r,shA X.length (Za3 e)++R,by simp only[dupL];rw[h];unfold ap;simp only[Y02]⟩
theorem Z5Z:∀(a b:List Ex)(cs:List AV)(X:Z00),dupL (a++b) cs X=dupL b (dupL a cs X).1 (dupL a cs X).2
 |[],b,cs,X=>by simp only[Y0h,dupL]
 |x::a,b,cs,X=>by simp only[Y0i,dupL,Z5Z a b]
theorem Z42:∀(l:List St)(cs:List AV)(X:Z00),∃r R,dupSL l cs X=(cs++r,X++R)
 |[],cs,X=>⟨[],[],by simp only[dupSL,Y0m]⟩
 |s::l,cs,X=>by
  obtain⟨r,R,h⟩:=Z42 l (cs++Zbl s X.length (ap X (Z0q (sX s))).length (ap (ap X (Z0q (sX s))) (Z2B s).1).length) (ap (ap (ap X (Z0q (sX s))) (Z2B s).1) (Z2B s).2)
  refine⟨Zbl s X.length (ap X (Z0q (sX s))).length (ap (ap X (Z0q (sX s))) (Z2B s).1).length++r,shA X.length (Z0q (sX s))++(shA (ap X (Z0q (sX s))).length (Z2B s).1++(shA (ap (ap X (Z0q (sX s))) (Z2B s).1).length (Z2B s).2++R)),?_⟩
  simp only[dupSL,h,Y02]
  congr 1
  show ap (ap (ap X (Z0q (sX s))) (Z2B s).1) (Z2B s).2++R=_
  unfold ap
  simp only[Y02]
theorem Z4G:∀(a b:List St)(cs:List AV)(X:Z00),dupSL (a++b) cs X=dupSL b (dupSL a cs X).1 (dupSL a cs X).2
 |[],b,cs,X=>by simp only[Y0h,dupSL]
 |x::a,b,cs,X=>by simp only[Y0i,dupSL,Z4G a b]
theorem Za1:∀(l:List (List St))(cs:List AV)(X:Z00),∃r R,Z1r l cs X=(cs++r,X++R)
 |[],cs,X=>⟨[],[],by simp only[Z1r,Y0m]⟩
 |e::l,cs,X=>by
  obtain⟨r,R,h⟩:=Za1 l (cs++[.slice X.length 0 e.length e.length 7]) (ap X (Z10 e))
  exact⟨[.slice X.length 0 e.length e.length 7]++r,shA X.length (Z10 e)++R,by simp only[Z1r];rw[h];unfold ap;simp only[Y02]⟩
theorem Z94:∀(a b:List (List St))(cs:List AV)(X:Z00),Z1r (a++b) cs X=Z1r b (Z1r a cs X).1 (Z1r a cs X).2
 |[],b,cs,X=>rfl
 |x::a,b,cs,X=>by simp only[Y0i,Z1r,Z94 a b]
theorem Zbf{α : Type}(l:List α)(i:Nat)(h:i<l.length):l=l.take i++l[i]::l.drop (i+1):=by
 rw[List.getElem_cons_drop h,List.take_append_drop]
theorem Z1x{a r:List AV}{c:List AV}{i:Nat}(h:a.length=i)(k:Nat)(u:AV)(hk:c[k]? = some u):(a++(c++r))[i+k]? = some u:=by
 subst h
 rw[Y08 (by omega),Y0z,Y0d (Y0e.1 hk).1]
 exact hk
theorem Znc(l:List Ex):BlkI (Z0q l) 0 4 l.length 36:=by
 refine⟨_,⟨rfl,by rw[Z0O,Z3x];simp⟩,λi hi=>Z44 _ ?_⟩
 have hc:=Zbf l i hi
 have h1:dupL l [] []=dupL (l.take i++l[i]::l.drop (i+1)) [] []:=by rw[<- hc]
 rw[Z5Z]at h1
 simp only[dupL]at h1
 obtain⟨r,R,h2⟩:=Z5j (l.drop (i+1)) ((dupL (l.take i) [] []).1++Zh8 l[i] (dupL (l.take i) [] []).2.length) (ap (dupL (l.take i) [] []).2 (Za3 l[i]))
 rw[h1,h2]
 have hl:(dupL (l.take i) [] []).1.length=i*4:=by rw[Z3x,Y0n,Y0p (by omega)];simp
 generalize l[i]=e
 obtain⟨o,n,s,k⟩:=e
 refine⟨o,?_⟩
 rw[Y02]
 exact Z1x hl 0 _ rfl
theorem Znb(l:List Ex):Zji (Z0q l) 0 l:=by
 refine⟨_,⟨rfl,by rw[Z0O,Z3x];simp⟩,λi hi=>?_⟩
 have hc:=Zbf l i hi
 have h1:dupL l [] []=dupL (l.take i++l[i]::l.drop (i+1)) [] []:=by rw[<- hc]
 rw[Z5Z]at h1
 simp only[dupL]at h1
 obtain⟨r,R,h2⟩:=Z5j (l.drop (i+1)) ((dupL (l.take i) [] []).1++Zh8 l[i] (dupL (l.take i) [] []).2.length) (ap (dupL (l.take i) [] []).2 (Za3 l[i]))
 have hl:(dupL (l.take i) [] []).1.length=i*4:=by rw[Z3x,Y0n,Y0p (by omega)];simp
 have hE:Emb (Z0q l) 1 (dupL l [] []).2:=Emb.sh1 1 [_] _ rfl
 have hk:BlkI (Z0q l) ((dupL (l.take i) [] []).2.length+1) 4 l[i].kids.length 36:=by
  have h3:Emb (dupL l [] []).2 (dupL (l.take i) [] []).2.length (Z0q l[i].kids):=by
   rw[h1,h2,<- Za2]
   exact (Emb.ap _ _).more
  have:=h3.i (Znc l[i].kids)
  rw[Y0b]at this
  exact hE.i this
 rw[h1,h2]
 generalize l[i]=e at *
 obtain⟨o,n,s,k⟩:=e
 refine⟨Z44 _ ⟨o,?_⟩,Z44 _ ⟨n,?_⟩,?_,(dupL (l.take i) [] []).2.length+1,?_,hk⟩
 ·rw[Y02];exact Z1x hl 0 _ rfl
 ·rw[Y02];exact Z1x hl 1 _ rfl
 ·rw[Z0p,Y02,Z1x hl 2 _ rfl];rfl
 ·rw[Z0p,Y02,Z1x hl 3 _ rfl];rfl
theorem ZjS(l:List St):BlkI (Z10 l) 0 7 l.length 30:=by
 refine⟨_,⟨rfl,by rw[Z0O,Z2s];simp⟩,λi hi=>Z44 _ ?_⟩
 have hc:=Zbf l i hi
 have h1:dupSL l [] []=dupSL (l.take i++l[i]::l.drop (i+1)) [] []:=by rw[<- hc]
 rw[Z4G]at h1
 simp only[dupSL]at h1
 rw[h1]
 have hl:(dupSL (l.take i) [] []).1.length=i*7:=by rw[Z2s,Y0n,Y0p (by omega)];simp
 generalize l[i]=e
 obtain⟨r,R,h2⟩:=Z42 (l.drop (i+1)) ((dupSL (l.take i) [] []).1++Zbl e (dupSL (l.take i) [] []).2.length (ap (dupSL (l.take i) [] []).2 (Z0q (sX e))).length (ap (ap (dupSL (l.take i) [] []).2 (Z0q (sX e))) (Z2B e).1).length) (ap (ap (ap (dupSL (l.take i) [] []).2 (Z0q (sX e))) (Z2B e).1) (Z2B e).2)
 rw[h2]
 obtain⟨kd,n,lc,o,x,t,e⟩:=e
 refine⟨kd,?_⟩
 rw[Y02]
 exact Z1x hl 0 _ rfl
theorem Zna(l:List St):BlkS (Z10 l) 0 l:=by
 refine⟨_,⟨rfl,by rw[Z0O,Z2s];simp⟩,λi hi=>?_⟩
 have hc:=Zbf l i hi
 have h1:dupSL l [] []=dupSL (l.take i++l[i]::l.drop (i+1)) [] []:=by rw[<- hc]
 rw[Z4G]at h1
 simp only[dupSL]at h1
 have hl:(dupSL (l.take i) [] []).1.length=i*7:=by rw[Z2s,Y0n,Y0p (by omega)];simp
 have hE:Emb (Z10 l) 1 (dupSL l [] []).2:=Emb.sh1 1 [_] _ rfl
 generalize hY:(dupSL (l.take i) [] []).2=Y at *
 generalize hC:(dupSL (l.take i) [] []).1=C at *
 obtain⟨r,R,h2⟩:=Z42 (l.drop (i+1)) (C++Zbl l[i] Y.length (ap Y (Z0q (sX l[i]))).length (ap (ap Y (Z0q (sX l[i]))) (Z2B l[i]).1).length) (ap (ap (ap Y (Z0q (sX l[i]))) (Z2B l[i]).1) (Z2B l[i]).2)
 have hXt:(dupSL l [] []).2=ap (ap (ap Y (Z0q (sX l[i]))) (Z2B l[i]).1) (Z2B l[i]).2++R:=by rw[h1,h2]
 have k1:Zji (Z10 l) (Y.length+1) (sX l[i]):=by
  have h3:Emb (dupSL l [] []).2 Y.length (Z0q (sX l[i])):=by
   rw[hXt]
   exact Emb.more (by unfold ap;exact Emb.more (Emb.more (Emb.ap Y (Z0q (sX l[i])))))
  have:=h3.x (Znb (sX l[i]))
  rw[Y0b]at this
  exact hE.x this
 have k2:BlkI (Z10 l) ((ap Y (Z0q (sX l[i]))).length+1) 7 (sT l[i]).length 30:=by
  have h3:Emb (dupSL l [] []).2 (ap Y (Z0q (sX l[i]))).length (Z10 (sT l[i])):=by
   rw[hXt,Z7W]
   exact Emb.more (Emb.more (Emb.ap (ap Y (Z0q (sX l[i]))) (Z10 (sT l[i]))))
  have:=h3.i (ZjS (sT l[i]))
  rw[Y0b]at this
  exact hE.i this
 have k3:BlkI (Z10 l) ((ap (ap Y (Z0q (sX l[i]))) (Z2B l[i]).1).length+1) 7 (sE l[i]).length 30:=by
  have h3:Emb (dupSL l [] []).2 (ap (ap Y (Z0q (sX l[i]))) (Z2B l[i]).1).length (Z10 (sE l[i])):=by
   rw[hXt,Z7W]
   exact Emb.more (Emb.ap _ _)
  have:=h3.i (ZjS (sE l[i]))
  rw[Y0b]at this
  exact hE.i this
 rw[h1,h2]
 generalize l[i]=e at *
 obtain⟨kd,n,lc,o,x,t,e⟩:=e
 refine⟨Z44 _ ⟨kd,?_⟩,?_,?_,Z44 _ ⟨o,?_⟩,⟨_,?_,k1⟩,⟨_,?_,k2⟩,⟨_,?_,k3⟩⟩
 ·rw[Y02];exact Z1x hl 0 _ rfl
 ·rw[Z0p,Y02,Z1x hl 1 _ rfl];rfl
 ·rw[Z0p,Y02,Z1x hl 2 _ rfl];rfl
 ·rw[Y02];exact Z1x hl 3 _ rfl
 ·rw[Z0p,Y02,Z1x hl 4 _ rfl];rfl
 ·rw[Z0p,Y02,Z1x hl 5 _ rfl];rfl
 ·rw[Z0p,Y02,Z1x hl 6 _ rfl];rfl
theorem ZmY(ts:List (List St))(t:Nat)(h:t<ts.length):(Z1r ts [] []).1[t]? = some (.slice (tlT ts t).length 0 ts[t].length ts[t].length 7)/\BlkS (Z1r ts [] []).2 (tlT ts t).length ts[t]:=by
 have hc:=Zbf ts t h
 have h1:Z1r ts [] []=Z1r (ts.take t++ts[t]::ts.drop (t+1)) [] []:=by rw[<- hc]
 rw[Z94]at h1
 simp only[Z1r]at h1
 obtain⟨r,R,h2⟩:=Za1 (ts.drop (t+1)) ((Z1r (ts.take t) [] []).1++[.slice (Z1r (ts.take t) [] []).2.length 0 ts[t].length ts[t].length 7]) (ap (Z1r (ts.take t) [] []).2 (Z10 ts[t]))
 have hl:(Z1r (ts.take t) [] []).1.length=t:=by rw[Z6X,Y0n,Y0p (by omega)];simp
 rw[h1,h2]
 refine⟨?_,?_⟩
 ·rw[Y02];exact Z1x hl 0 _ rfl
 · have h3:Emb (ap (Z1r (ts.take t) [] []).2 (Z10 ts[t])++R) (tlT ts t).length (Z10 ts[t]):=(Emb.ap _ _).more
   have:=h3.s (Zna ts[t])
   rwa [Y0b]at this
end
end Go.Proofs.YtajhailaofchlaaDoor.lex
section
namespace Go.Abs
open Go.RowKit
def ZaF(m:Nat)(F:Nat->List AV->Option AV):Orc:=λf args H=>match frzL (frz H m) args with
 |some az=>match F f az with|some r=>some (r,H)|none=>none
 |none=>none
theorem Zc4{P:Program}{gl:Glob}{m:Nat}{F:Nat->List AV->Option AV}(h:∀f args r,F f args=some r->plain r=true/\Z0k P gl f args r):OrcSound P gl (ZaF m F):=by
 intro f args H r H' hf sn ι W cargs hg hR ha
 unfold ZaF at hf
 split at hf<;>try (simp at hf;done)
 rename_i az has
 split at hf<;>simp at hf
 rename_i r' hr
 obtain⟨rfl,rfl⟩:=hf
 obtain⟨h1,h2⟩:=h f az r' hr
 have hle:∀a v,sn a=some v->snx sn 0 W a=some v:=λa v hv=>by
  unfold snx;rw[if_neg (by omega)];exact (hR.snap a v hv).2.1
 have hR':R (snx sn 0 W) noI [] W :=
  ⟨fun b => ⟨fun hb => by simp at hb, fun ⟨p, hp⟩ => by simp [noI] at hp⟩, fun b p hp => by simp [noI] at hp, fun b o p hb => by simp at hb, fun b b' o o' p p' hb => by simp at hb,
    λa v hv=>by
     unfold snx at hv;rw[if_neg (by omega)]at hv
     refine⟨?_,hv,λb o p hb=>by simp at hb⟩
     cases hq:W.heap[a.block]? with
     |none=>unfold World.cell? at hv;rw[hq]at hv;simp at hv
     |some ob=>exact (Array.getElem?_eq_some_iff.1 hq).1,
    λb o p hb=>by simp at hb⟩
 have hargs:LR (snx sn 0 W) noI az cargs:=Z0Q (λu r v=>Z7I hR (λ_ _ _ _ _ _=>Y0q _) m u r v) has ha
 refine (h2 _ W cargs (hg.mono (Zb1 hle)) hR' hargs).monoY ?_
 rintro e W' ⟨v,rfl,hx,hv⟩
 exact⟨v,sn,ι,rfl,Z6L h1 hv,Stp.ext hR hx⟩
open Classical in
theorem Zl6 {P : Program} {gl : Glob} (m : Nat) {O : Orc} (hO : OrcSound P gl O) {f0 : Nat} {A0 : List AV} {r0 : AV} (hr : plain r0 = true) (hv : Z0k P gl f0 A0 r0) (hb : Z0b P f0 = true) : ∃ O', OrcSound P gl O' /\ (∀ H args, frzL (frz H m) args = some A0 -> Z08 P O' H f0 args = some (r0, H)) /\
  ∀g,g≠f0->∀args H,Z08 P O' H g args=Z08 P O H g args:=by
 have hz:OrcSound P gl (ZaF m λf args=>if f=f0/\args=A0 then some r0 else none):=Zc4 λf args r h=>by
  split at h
  · rename_i e
    obtain⟨rfl,rfl⟩:=e
    cases h
    exact⟨hr,hv⟩
  ·cases h
 refine⟨Z29 (ZaF m λf args=>if f=f0/\args=A0 then some r0 else none) O,Z12 hz hO,λH args ha=>Z49 hb ?_,λg hg args H=>?_⟩
 · unfold Z08 ZaF
   rw[if_pos hb,ha]
   simp only[and_self,if_true]
 · unfold Z08
   have h1:Z29 (ZaF m λf args=>if f=f0/\args=A0 then some r0 else none) O g=O g:=by
    funext args H
    unfold Z29 ZaF
    cases frzL (frz H m) args with
    |none=>rfl
    |some fa=>simp only;rw[if_neg (λh=>hg h.1)]
   have hy:yl (Z29 (ZaF m λf args=>if f=f0/\args=A0 then some r0 else none) O) H g args=yl O H g args:=by unfold yl;simp only[h1]
   rw[h1,hy]
noncomputable def Zc7(H1:Z00)(o:Orc):Orc:=λf args H=>open Classical in if H=H1 then o f args H else none
theorem Zc6{P:Program}{gl:Glob}{H1:Z00}{o:Orc}(h:OrcSound P gl o):OrcSound P gl (Zc7 H1 o):=by
 intro f args H r H' e
 unfold Zc7 at e
 split at e
 ·exact h f args H r H' e
 ·cases e
theorem Zlm {P : Program} {gl : Glob} (F : FamN P gl) (H1 : Z00) {O : Orc} (hO : OrcSound P gl O) : ∃ O', OrcSound P gl O' /\ (∀ i, F.G i -> Z08 P O' H1 F.f (F.A i) = some (ren (· + H1.length) (F.R i), H1 ++ shA H1.length (F.N i))) /\
  ∀g args H,(H≠H1\/g≠F.f)->Z08 P O' H g args=Z08 P O H g args:=by
 refine⟨Z29 (Zc7 H1 (ZeW F.G (λ_=>F.f) F.A F.R F.N)) O,Z12 (Zc6 (Z8H F.ok)) hO,λi hi=>Z49 F.body ?_,λg args H hg=>?_⟩
 · unfold Z08
   rw[if_pos F.body]
   unfold Zc7 ZeW
   rw[if_pos rfl]
   have h:∃j,F.G j/\F.f=F.f/\F.A j=F.A i:=⟨i,hi,rfl,rfl⟩
   rw[dif_pos h]
   obtain⟨h1,_,h3⟩:=Classical.choose_spec h
   obtain⟨e1,e2⟩:=F.inj _ _ h1 hi h3
   rw[e1,e2]
 · have h1 : ∀ args, Z29 (Zc7 H1 (ZeW F.G (fun _ => F.f) F.A F.R F.N)) O g args H = O g args H := fun args => by
    unfold Z29 Zc7 ZeW
    rcases hg with hg|hg
    ·rw[if_neg hg]
    · by_cases he:H=H1
      ·rw[if_pos he,dif_neg (λ⟨j,_,h2,_⟩=>hg h2.symm)]
      ·rw[if_neg he]
   unfold Z08
   have hy:yl (Z29 (Zc7 H1 (ZeW F.G (λ_=>F.f) F.A F.R F.N)) O) H g args=yl O H g args:=by unfold yl;simp only[h1]
   rw[h1,hy]
theorem Z5e{H:Z00}{n b f sh len cap z:Nat}{cs l:List AV}{ty:TypeId}(hH:H[b]? = some ⟨true,f,sh,.cells cs ty⟩)(hc:cs.length=len*z)(hl:frzL (frz H n) cs=some l):frz H (n+1) (.slice b 0 len cap z)=some (.rs len z l):=by
 cases len with
 |zero =>
  have:cs=[]:=Y18 (by omega)
  subst this
  simp only[frzL,Option.some.injEq]at hl
  subst hl
  rfl
 |succ m =>
  unfold frz
  simp only[hH,List.drop_zero,ZcV hc,hl]
theorem Z6U{g:AV->Option AV}:∀{a b x y:List AV},frzL g a=some x->frzL g b=some y->frzL g (a++b)=some (x++y)
 |[],b,x,y,h,k=>by simp only[frzL,Option.some.injEq]at h;subst h;exact k
 |u::a,b,x,y,h,k=>by
  simp only[Y0i,frzL]at h⊢
  split at h
  · rename_i p q e1 e2
    cases h
    rw[e1,Z6U e2 k]
    rfl
  ·cases h
end Go.Abs
end
namespace Go.Proofs.YtajhailaofchlaaDoor.lex
open Go.Abs Go.RowKit
section
theorem Emb.trans{H F N:Z00}{a b:Nat}(h:Emb H a F)(k:Emb F b N)(hN:ClT N.length 0 N):Emb H (b+a) N:=λi o hi=>by
 have h2:=h _ _ (k i o hi)
 rw[show a+(b+i)=b+a+i from by omega]at h2
 rw[h2]
 obtain⟨g1,g2,g3,cs,ty,g4,g5⟩:=hN i o hi
 simp only[shO,g4,Zaj,renL_renL,Y0y]
theorem Emb.hd{H:Z00}{d:Nat}{ty:TypeId}{p:List AV×Z00}(h:Emb H d (mkB ty p))(hp:Gd p):H[d]? = some ⟨true,0+d,0,.cells (renL (· + d) (renL (· + 1) p.1)) ty⟩/\Emb H (d+1) p.2:=by
 refine⟨h 0 _ rfl,?_⟩
 have h1:Emb (mkB ty p) 1 p.2:=Emb.sh1 1 [_] _ rfl
 have:=h.trans h1 hp.1
 rwa [Y0o]at this
mutual
theorem Zdq(H:Z00):∀(e:Ex)(n d:Nat),Z1v e<n->Emb H d (Za3 e)->frz H n (.slice d 0 e.kids.length e.kids.length 4)=some (exA e.kids)
 | .mk o m s k,n,d,hn,hE=>by
  simp only[Z1v]at hn
  simp only[Za3]at hE
  simp only[Ex.kids]
  obtain⟨n,rfl⟩:∃n',n=n'+1:=⟨n-1,by omega⟩
  obtain⟨h1,h2⟩:=hE.hd (dupL_gd k [] [] Gd.nil)
  refine Z5e h1 (by rw[Z0O,Z0O,Z3x];simp) ?_
  obtain⟨r,R,h3⟩:=Z5j k [] []
  have h4:=frz_dupL H k n (d+1) [] [] r R (by omega) h3 (by rw[h3]at h2;exact h2)
  rw[h3]
  simp only[Y0h,renL_renL,show (λb=>b+1+d)=(· + (d+1)) from funext λb=>by omega]
  exact h4
theorem frz_dupL(H:Z00):∀(l:List Ex)(n a:Nat)(cs:List AV)(X:Z00)(r:List AV)(R:Z00),sizeL l<n->dupL l cs X=(cs++r,X++R)->Emb H a (X++R)->frzL (frz H n) (renL (· + a) r)=some (exC l)
 |[],n,a,cs,X,r,R,hn,h,hE=>by
  simp only[dupL,Prod.mk.injEq]at h
  have hr:r=[]:=by have:=h.1;simpa using this
  subst hr
  simp only[exC]
  rfl
 |e::l,n,a,cs,X,r,R,hn,h,hE=>by
  simp only[sizeL]at hn
  have hsz:=Z54 e
  simp only[dupL]at h
  obtain⟨r',R',h3⟩:=Z5j l (cs++Zh8 e X.length) (ap X (Za3 e))
  rw[h3]at h
  simp only[Prod.mk.injEq]at h
  have hr:r=Zh8 e X.length++r':=by
   have:=h.1;rw[Y02]at this;exact (Y11 this).symm
  have hXR:X++R=ap X (Za3 e)++R':=h.2.symm
  subst hr
  rw[hXR]at hE
  have ih:=frz_dupL H l n a (cs++Zh8 e X.length) (ap X (Za3 e)) r' R' (by omega) h3 hE
  have hk:Emb H (X.length+a) (Za3 e):=hE.trans (Emb.ap X (Za3 e)).more (Zgr e)
  rw[Z2F]
  simp only[exC]
  refine Z6U ?_ ih
  have he:=Zdq H e n (X.length+a) (by omega) hk
  obtain⟨n,rfl⟩:∃n',n=n'+1:=⟨n-1,by omega⟩
  obtain⟨o,m,s,k⟩:=e
  simp only[Zh8,renL,ren,frzL,Ex.kids]at he⊢
  rw[he]
  rfl
end
theorem Ziz(H:Z00)(l:List Ex)(n d:Nat)(hn:sizeL l+1<n)(hE:Emb H d (Z0q l)):frz H n (.slice d 0 l.length l.length 4)=some (exA l):=by
 have h:=Zdq H (.mk 0 0 [] l) n d (by simp only[Z1v];omega) (by rw[Za2];exact hE)
 simpa only[Ex.kids]using h
theorem Zg1(H:Z00)(l:List St)(n d:Nat)(hrec:∀(r:List AV)(R:Z00),dupSL l [] []=([]++r,[]++R)->Emb H (d+1) ([]++R)->frzL (frz H n) (renL (· + (d+1)) r)=some (stC l))(hE:Emb H d (mkB 30 (dupSL l [] []))):frz H (n+1) (.slice d 0 l.length l.length 7)=some (stA l):=by
 obtain⟨h1,h2⟩:=hE.hd (dupSL_gd l [] [] Gd.nil)
 refine Z5e h1 (by rw[Z0O,Z0O,Z2s];simp) ?_
 obtain⟨r,R,h3⟩:=Z42 l [] []
 have h4:=hrec r R h3 (by rw[h3]at h2;exact h2)
 rw[h3]
 simp only[Y0h,renL_renL,show (λb=>b+1+d)=(· + (d+1)) from funext λb=>by omega]
 exact h4
mutual
theorem Zix (H : Z00) : ∀ (s : St) (n a : Nat) (X R : Z00), Z1U s < n -> Emb H a (ap (ap (ap X (Z0q (sX s))) (Z2B s).1) (Z2B s).2 ++ R) ->
  frzL (frz H n) (renL (· + a) (Zbl s X.length (ap X (Z0q (sX s))).length (ap (ap X (Z0q (sX s))) (Z2B s).1).length))=some s.cells
 | .mk kd nm lc od x t e,n,a,X,R,hn,hE=>by
  simp only[Z1U]at hn
  have c1:=Zgq (.mk kd nm lc od x t e)
  simp only[Z2B,sX]at hE c1⊢
  obtain⟨n,rfl⟩:∃n',n=n'+1:=⟨n-1,by omega⟩
  have k1:Emb H (X.length+a) (Z0q x):=hE.trans (by
   refine Emb.more ?_
   unfold ap
   exact Emb.more (Emb.more (Emb.ap X (Z0q x)))) (Z2v x)
  have k2:Emb H ((ap X (Z0q x)).length+a) (mkB 30 (dupSL t [] [])):=hE.trans (by
   refine Emb.more ?_
   exact Emb.more (Emb.ap _ _)) c1.1
  have k3:Emb H ((ap (ap X (Z0q x)) (mkB 30 (dupSL t [] []))).length+a) (mkB 30 (dupSL e [] [])):=hE.trans (Emb.more (Emb.ap _ _)) c1.2
  have f1:=Ziz H x (n+1) _ (by omega) k1
  have f2:=Zg1 H t n _ (λr R h3 h=>frz_dupSL H t n _ [] [] r R (by omega) h3 h) k2
  have f3:=Zg1 H e n _ (λr R h3 h=>frz_dupSL H e n _ [] [] r R (by omega) h3 h) k3
  simp only[Zbl,renL,ren,frzL,St.cells]
  rw[f1,f2,f3]
  rfl
theorem frz_dupSL(H:Z00):∀(l:List St)(n a:Nat)(cs:List AV)(X:Z00)(r:List AV)(R:Z00),sizeSL l<n->dupSL l cs X=(cs++r,X++R)->Emb H a (X++R)->frzL (frz H n) (renL (· + a) r)=some (stC l)
 |[],n,a,cs,X,r,R,hn,h,hE=>by
  simp only[dupSL,Prod.mk.injEq]at h
  have hr:r=[]:=by have:=h.1;simpa using this
  subst hr
  simp only[stC]
  rfl
 |s::l,n,a,cs,X,r,R,hn,h,hE=>by
  simp only[sizeSL]at hn
  have hsz:=Z8y s
  simp only[dupSL]at h
  obtain⟨r',R',h3⟩:=Z42 l (cs++Zbl s X.length (ap X (Z0q (sX s))).length (ap (ap X (Z0q (sX s))) (Z2B s).1).length) (ap (ap (ap X (Z0q (sX s))) (Z2B s).1) (Z2B s).2)
  rw[h3]at h
  simp only[Prod.mk.injEq]at h
  have hr:r=Zbl s X.length (ap X (Z0q (sX s))).length (ap (ap X (Z0q (sX s))) (Z2B s).1).length++r':=by
   have:=h.1;rw[Y02]at this;exact (Y11 this).symm
  have hXR:X++R=ap (ap (ap X (Z0q (sX s))) (Z2B s).1) (Z2B s).2++R':=h.2.symm
  subst hr
  rw[hXR]at hE
  have ih:=frz_dupSL H l n a _ _ r' R' (by omega) h3 hE
  have hs:=Zix H s n a X R' (by omega) hE
  rw[Z2F]
  simp only[stC]
  exact Z6U hs ih
end
theorem Ziy(H:Z00)(l:List St)(n d:Nat)(hn:sizeSL l<n)(hE:Emb H d (Z10 l)):frz H (n+1) (.slice d 0 l.length l.length 7)=some (stA l) :=
 Zg1 H l n d (λr R h3 h=>frz_dupSL H l n _ [] [] r R hn h3 h) hE
theorem Zdp(H:Z00):∀(l:List (List St))(n a:Nat)(cs:List AV)(X:Z00)(r:List AV)(R:Z00),Z0j l<n->Z1r l cs X=(cs++r,X++R)->Emb H a (X++R)->frzL (frz H (n+1)) (renL (· + a) r)=some (l.map stA)
 |[],n,a,cs,X,r,R,hn,h,hE=>by
  simp only[Z1r,Prod.mk.injEq]at h
  have hr:r=[]:=by have:=h.1;simpa using this
  subst hr
  rfl
 |t::l,n,a,cs,X,r,R,hn,h,hE=>by
  simp only[Z0j]at hn
  simp only[Z1r]at h
  obtain⟨r',R',h3⟩:=Za1 l (cs++[.slice X.length 0 t.length t.length 7]) (ap X (Z10 t))
  rw[h3]at h
  simp only[Prod.mk.injEq]at h
  have hr:r=[.slice X.length 0 t.length t.length 7]++r':=by
   have:=h.1;rw[Y02]at this;exact (Y11 this).symm
  have hXR:X++R=ap X (Z10 t)++R':=h.2.symm
  subst hr
  rw[hXR]at hE
  have ih:=Zdp H l n a _ _ r' R' (by omega) h3 hE
  have hs:=Ziy H t n (X.length+a) (by omega) (hE.trans (Emb.ap X (Z10 t)).more (Z2u t))
  rw[Z2F]
  simp only[Y0r]
  refine Z6U (a:=renL (· + a) [.slice X.length 0 t.length t.length 7]) (x:=[stA t]) ?_ ih
  simp only[renL,ren,frzL,hs]
end
section
variable {gl:Glob}
theorem _root_.Go.Abs.ClT.alive{n d:Nat}{X:Z00}(h:ClT n d X):∀o∈X,o.alive=true:=λo ho=>by
 obtain⟨i,hi⟩:=Y0U ho
 exact (h i o hi).1
mutual
theorem Zd4:∀u:AV,ren (λb=>b) u=u
 | .ptr b off=>rfl
 | .slice b off len cap z=>rfl
 | .map b=>rfl
 | .func fn a b=>by simp only[ren,renL_self a,renL_self b]
 | .iface t v=>by simp only[ren,Zd4 v]
 | .agg cs=>by simp only[ren,renL_self cs]
 | .tuple cs=>by simp only[ren,renL_self cs]
 | .bool b=>rfl
 | .int k n=>rfl
 | .str s=>rfl
 | .nptr=>rfl
 | .rp cs=>rfl
 | .nslice=>rfl
 | .rs n z cs=>rfl
 | .nmap=>rfl
 | .nfunc=>rfl
 | .niface=>rfl
theorem renL_self:∀l:List AV,renL (λb=>b) l=l
 |[]=>rfl
 |a::l=>by simp only[renL,Zd4 a,renL_self l]
end
theorem Z8B{n e:Nat}{X:Z00}(h:ClT n e X):shA 0 X=X:=by
 unfold shA
 conv=>rhs;rw[<- List.map_id X]
 refine List.map_congr_left λo ho=>?_
 obtain⟨i,hi⟩:=Y0U ho
 obtain⟨h1,h2,h3,cs,ty,h4,h5⟩:=h i o hi
 obtain⟨al,fm,sh,b⟩:=o
 simp only at h4
 subst h4
 simp only[shO,Zaj,id,Y0I]
 rw[renL_self cs]
theorem Z8X{n m:Nat}{k:Nat->Prop}(e:n=m)(h:k m):frcNP n k:=by rw[Z3v,e];exact h
theorem Znh{X A B:Z00}(hB:ClT B.length 0 B):ap (ap X A) B=ap X (ap A B):=by
 unfold ap
 rw[Y02,Z9r,Z7h hB,Y0a,Z0a,Y0o]
theorem Zjq(c:AObj)(X:Z00)(b:AObj)(R:Z00){n:Nat}(hn:n=X.length+1):(c::(shA 1 X++(b::R)))[n]? = some b:=by
 subst hn
 rw[Y0l,Y08 (by rw[Z0a];exact Y01 _),Z0a,Y0v]
 rfl
theorem Z9w(c:AObj){X:Z00}(b b':AObj){N:Z00}(hX:ClT X.length 0 X)(hN:ClT N.length 0 N)(hc:c.fam=0){n:Nat}(hn:n=X.length+1):(Z30 n n (c::(shA 1 X++(b::shA (X.length+2) N)))).set n b'=c::(shA 1 X++(b'::shA (X.length+2) N)):=by
 subst hn
 rw[Z4R λi o hi hne=>?_]
 · rw[Y0N,Y0J _ _ (by rw[Z0a];exact Y01 _),Z0a,Y0v]
   rfl
 · cases i with
   |zero =>
    simp only[Y0w,Option.some.injEq]at hi
    subst hi
    omega
   |succ i =>
    rw[Y0l]at hi
    by_cases h1:i<X.length
    · rw[Y0d (by rw[Z0a];exact h1)]at hi
      have:=(hX.sh (d:=1) i o hi).2.1
      omega
    · rw[Y08 (by rw[Z0a];omega),Z0a]at hi
      obtain⟨j,hj⟩:∃j,i-X.length=j+1:=⟨i-X.length-1,by omega⟩
      rw[hj,Y0l]at hi
      have:=(hN.sh (d:=X.length+2) j o hi).2.1
      omega
theorem Zfw(c:AObj)(X:Z00)(cs:List AV)(ty:TypeId){n:Nat}(hn:n=X.length+1):Z14 (c::shA 1 X) cs ty=c::(shA 1 X++(⟨true,n,0,.cells cs ty⟩::shA (X.length+2) [])):=by
 subst hn
 unfold Z14
 rw[Y04,Z0a]
 rfl
theorem Zfx(c:AObj)(X:Z00):(c::shA 1 X).length=X.length+1:=by rw[Y04,Z0a]
theorem Z9x(c:AObj)(X:Z00)(b:AObj)(A:Z00){N:Z00}(hN:ClT N.length 0 N):(c::(shA 1 X++(b::shA (X.length+2) A)))++shA (c::(shA 1 X++(b::shA (X.length+2) A))).length N=c::(shA 1 X++(b::shA (X.length+2) (ap A N))):=by
 have:(c::(shA 1 X++(b::shA (X.length+2) A))).length=A.length+(X.length+2):=by
  rw[Y04,Y0a,Z0a,Y04,Z0a];omega
 rw[this]
 unfold ap
 rw[Z9r,Z7h hN]
 simp
theorem Z28(c:AObj)(X:Z00)(b:AObj)(A:Z00):(c::(shA 1 X++(b::shA (X.length+2) A))).length=A.length+(X.length+2):=by
 rw[Y04,Y0a,Z0a,Y04,Z0a];omega
theorem ZaA{c c':AObj}{X:Z00}{b:AObj}{N:Z00}(hX:ClT X.length 0 X)(hN:ClT N.length 0 N)(hc:c.fam=0)(hb:b.fam=X.length+1):(Z30 0 0 (c::(shA 1 X++(b::shA (X.length+2) N)))).set 0 c'=c'::(shA 1 X++(b::shA (X.length+2) N)):=by
 rw[Z4R λi o hi hne=>?_]
 ·rfl
 · cases i with
   |zero=>exact absurd rfl hne
   |succ i =>
    rw[Y0l]at hi
    by_cases h1:i<X.length
    · rw[Y0d (by rw[Z0a];exact h1)]at hi
      have:=(hX.sh (d:=1) i o hi).2.1
      omega
    · rw[Y08 (by rw[Z0a];omega),Z0a]at hi
      cases hj:i-X.length with
      |zero =>
       rw[hj,Y0w,Option.some.injEq]at hi
       subst hi
       omega
      |succ j =>
       rw[hj,Y0l]at hi
       have:=(hN.sh (d:=X.length+2) j o hi).2.1
       omega
def mR(x n:Nat):List Nat:=0::(List.range' 1 x++List.range' (x+2) n)
theorem ZfL{x n i:Nat}(h:i<x+1):(mR x n)[i]? = some i:=by
 unfold mR
 cases i with
 |zero=>rfl
 |succ i =>
  rw[Y0l,Y0d (by simp;omega),Y0x (by omega)]
  simp;omega
theorem Zce{x n i:Nat}(h:i<n):(mR x n)[x+1+i]? = some (x+2+i):=by
 unfold mR
 rw[show x+1+i=(x+i)+1 from by omega,Y0l,Y08 (by simp),List.length_range',Y0z,Y0x h]
 simp
theorem Zfy {t0 tm : Tr} {ls : List (Nat × AV)} {X N : Z00} {c c2 : List AV} {ty : TypeId} {b : AObj} (hX : ClT X.length 0 X) (hN : ClT N.length 0 N) (hb : BodyGe (mR X.length N.length) (.cells c ty) (.cells c2 ty)) (h : ZbI t0 tm = true) (h1 : SlotsGe (mR X.length N.length) tm ls) :
  FgL t0 tm (⟨true,0,0,.cells c ty⟩::(shA 1 X++(b::shA (X.length+2) N))) ls (⟨true,0,0,.cells c2 ty⟩::shA 1 (ap X N)):=by
 have hlx:∀i o,X[i]? = some o->((⟨true,0,0,.cells c ty⟩:AObj)::(shA 1 X++(b::shA (X.length+2) N)))[1+i]? = some (shO 1 o):=λi o hi=>Z70 (L:=[_]) rfl i o hi
 have hln:∀i o,N[i]? = some o->((⟨true,0,0,.cells c ty⟩:AObj)::(shA 1 X++(b::shA (X.length+2) N)))[X.length+2+i]? = some (shO (X.length+2) o):=λi o hi=>by
  rw[show X.length+2+i=(X.length+(i+1))+1 from by omega,Y0l,Y08 (by rw[Z0a];omega),Z0a,Y0z,Y0l]
  simp[shA,hi]
 have hp:HpGe (⟨true,0,0,.cells c ty⟩::(shA 1 X++(b::shA (X.length+2) N))) (mR X.length N.length) (mR X.length N.length) (⟨true,0,0,.cells c2 ty⟩::shA 1 (ap X N)) 0:=by
  have e:shA 1 (ap X N)=shA 1 X++shA (X.length+1) N:=by unfold ap;rw[Z9r,Z7h hN]
  rw[e]
  show HpGe _ _ ([0]++(List.range' 1 X.length++List.range' (X.length+2) N.length)) ([_]++(shA 1 X++shA (X.length+1) N)) 0
  refine HpGe.app ⟨⟨rfl,rfl,rfl,rfl,hb⟩,trivial⟩ (HpGe.app (Z5P hX hlx λi hi=>?_) ?_)
  ·rw[ZfL (by omega)]
  · rw[show 0+[0].length+(List.range' 1 X.length).length=X.length+1 from by simp;omega]
    exact Z5P hN hln λi hi=>Zce hi
 refine Y0k _ h h1 hp ?_
 have e:(mR X.length N.length).map (Z1b (⟨true,0,0,.cells c ty⟩::(shA 1 X++(b::shA (X.length+2) N))))=mR X.length N.length:=by
  unfold mR
  rw[Y0r,Y0X,Z9Q hX hlx,Z9Q hN hln]
  rfl
 rw[e]
 unfold mR
 simp only[Z0H,Y0B,Y0H]
 refine⟨?_,Z5L (Z1X _ _) (Z1X _ _) λx hx=>?_⟩
 · cases hm:mem 0 (List.range' 1 X.length++List.range' (X.length+2) N.length) with
   |false=>rfl
   |true =>
    rcases List.mem_append.1 (mem_iff.1 hm)with h|h
    ·rw[Y0M]at h;omega
    ·rw[Y0M]at h;omega
 · rw[Y0M]at hx
   cases hm:mem x (List.range' (X.length+2) N.length) with
   |false=>rfl
   |true=>have:=Z5M.1 hm;omega
theorem BodyGe.cat{m:List Nat}{a a2 b b2:List AV}{ty:TypeId}(h:BodyGe m (.cells a ty) (.cells a2 ty))(hl:a.length=a2.length)(k:BodyGe m (.cells b ty) (.cells b2 ty)):BodyGe m (.cells (a++b) ty) (.cells (a2++b2) ty):=by
 obtain⟨_,h2,h3⟩:=h
 obtain⟨_,k2,k3⟩:=k
 refine⟨rfl,by simp only[Y0a];omega,λi c hc=>?_⟩
 by_cases hi:i<a2.length
 · rw[Y0d hi]at hc
   rw[Y0d (by omega)]
   exact h3 i c hc
 · rw[Y08 (by omega)]at hc
   rw[Y08 (by omega),hl]
   exact k3 _ c hc
theorem Zgh{i j:List Ex}(h:[exA i]=[exA j]):AV.slice 0 0 i.length i.length 4=AV.slice 0 0 j.length j.length 4/\Z0q i=Z0q j:=by
 have e:=Z5V (show exA i=exA j by simpa using h)
 subst e;exact⟨rfl,rfl⟩
end
section
variable {gl:Glob}
def cqE(l:List Ex)(i:Nat)(o m:Int)(s:List UInt8)(k:List Ex)(b:Nat):List AV:=renL (· + 1) (dupL (l.take i) [] []).1++([.int .i64 o,.int .i64 m,.str s,.slice b 0 k.length k.length 4]++Z1a (l.length-(i+1)) [.int .i64 0,.int .i64 0,.str [],.nslice])
theorem ZlF(l:List Ex)(i p:Nat)(h:i<l.length)(hp:p=i*4)(o m:Int)(s:List UInt8)(k:List Ex)(b:Nat):spl (cpE l i) p [.int .i64 o,.int .i64 m,.str s,.slice b 0 k.length k.length 4]=some (cqE l i o m s k b):=by
 have hl:(renL (· + 1) (dupL (l.take i) [] []).1).length=i*4:=by rw[Z0O,Z3x,Y0n,Y0p (by omega)];simp
 have e:l.length-i=(l.length-(i+1))+1:=by omega
 have e1:cpE l i=renL (· + 1) (dupL (l.take i) [] []).1++([.int .i64 0,.int .i64 0,.str [],.nslice]++Z1a (l.length-(i+1)) [.int .i64 0,.int .i64 0,.str [],.nslice]):=by unfold cpE;rw[e];rfl
 rw[e1,hp,<- hl,ZhX _ [.int .i64 0,.int .i64 0,.str [],.nslice] _ [.int .i64 o,.int .i64 m,.str s,.slice b 0 k.length k.length 4] rfl]
 rfl
theorem ZiY(l:List Ex)(i:Nat)(h:i<l.length){o m:Int}{s:List UInt8}{k:List Ex}(hx:l[i] = .mk o m s k):cpE l (i+1)=cqE l i o m s k ((tlE l i).length+1):=by
 unfold cpE cqE
 rw[Y0s,Y0j h,Y0t,Z7X,Z2F,Y02,hx]
 rfl
theorem Zn4(l:List Ex)(i:Nat)(o m:Int)(s:List UInt8)(k:List Ex){n:Nat}(hn:0<n):BodyGe (mR (tlE l i).length n) (.cells (cqE l i o m s k ((tlE l i).length+2)) 36) (.cells (cqE l i o m s k ((tlE l i).length+1)) 36):=by
 unfold cqE
 refine BodyGe.cat (BodyGe.keep (n:=(tlE l i).length+1) (λb hb=>ZfL hb) (Z17 (ZcU l i).2)) rfl (BodyGe.cat (Y0c ⟨Y0f rfl,Y0f rfl,Wk.str rfl,Y03 (Zce (i:=0) hn) rfl rfl (Y01 _) (Y01 _) rfl,trivial⟩) rfl (Y05 (rest:=[]) (by simp) (Z06 (Z0w _ rfl _))))
section
attribute [local irreducible] Go.Abs.frcHW Go.Abs.frcNP
theorem Zbi:∀(n:Nat)(l:List Ex),sizeL l<=n->okL l->sizeL l<=1048576->ZeT Y00 gl 81 [exA l] (.slice 0 0 l.length l.length 4) (Z0q l)
 |n,l,h,hok,hs=>by
  obtain⟨O,hO,q0,-⟩:=Z6W (P:=Y00) (gl:=gl) { I:=List Ex,f:=81,G:=λl=>sizeL l<n/\okL l/\sizeL l<=1048576,A:=λl=>[exA l],R:=λl=>.slice 0 0 l.length l.length 4,N:=λl=>Z0q l,body:=(by kernel_rfl),inj:=(λi j _ _ h=>Zgh h),ok:=(λl hl=>⟨rfl,(Z2v l).alive,match n,hl.1 with|n+1,h=>Zbi n l (by omega) hl.2.1 hl.2.2⟩) } Z1K
  have q1:∀l,sizeL l<n->okL l->sizeL l<=1048576->∀(c:AObj)(X:Z00)(b:AObj),Z08 Y00 O (c::(shA 1 X++(b::shA (X.length+2) []))) 81 [exA l]=some (.slice (X.length+2) 0 l.length l.length 4,c::(shA 1 X++(b::shA (X.length+2) (Z0q l)))):=λl h1 h2 h3 c X b=>by
   have h:=q0 l ⟨h1,h2,h3⟩ (c::(shA 1 X++(b::shA (X.length+2) [])))
   simp only[ren]at h
   rw[Z9x c X b [] (Z2v l),Z28]at h
   have e:ap [] (Z0q l)=Z0q l:=by
    exact Z8B (Z2v l)
   rw[e]at h
   simpa using h
  clear q0
  have hlen:=Z3S l
  have hm:=ZjB l.length (by omega)
  simp only[exA]at q1⊢
  refine Zg7 follows Z0x hO Tryd.func81 rfl (Z5k _ _) ?_
  repeat' ((conv=>whnf);first|refine exI (hm _) ?_|(refine Z0K ?_)|(refine Z0y ?_)|refine stp ?_|with_reducible apply Z03<;>intro h)
  conv=>whnf
  refine⟨Nat,(λi=>i<=l.length),(λi=>[(3,.slice 0 0 l.length l.length 4),(9,.rs l.length 4 (exC l)),(10,.int .i64 l.length),(11,.int .i64 i)]),(λi=>⟨true,0,0,.cells (cpE l i) 36⟩::shA 1 (tlE l i)),(λi=>l.length-i),⟨0,Y0q _,Y0k [0] rfl ?_ ⟨⟨rfl,rfl,rfl,rfl,Y05 (rest:=[]) ?_ ?_⟩,trivial⟩ rfl⟩,?_⟩
  · refine Y06 (Y03 rfl rfl rfl (Y01 _) (Y01 _) rfl) ?_
    exact wks
  ·rw[ZdI];simp
  ·rw[ZdI];exact Z06 (Z0w _ rfl _)
  intro i hi
  dsimp only
  by_cases hlt:i<l.length
  · have e1:decide ((i:Int)<(l.length:Int))=true:=by simpa using hlt
    have hx:=ex4 l i hlt
    have hsz:=Z1u _ _ (Z0c hlt)
    have hxo:=Z2n hok _ (Z0c hlt)
    have hnx:=ZhN l i hlt
    have hX:=(ZcU l i).1
    have hge:=λo m s k=>@Zn4 l i o m s k
    have hcn:=λo m s k=>@ZiY l i hlt o m s k
    generalize hY:tlE l i=X at *
    generalize hxx:l[i]=x at *
    obtain⟨o,m,s,k⟩:=x
    have hk:=Z3r hxo
    simp only[Ex.kids,Ex.name,okN]at hk hnx
    simp only[Z1v]at hsz
    have hcn:=hcn o m s k rfl
    have hge:=hge o m s k (Z5l k)
    have hsp:=ZlF l i (0+i*4) hlt (by omega) o m s k (X.length+2)
    have hN:=Z2v k
    generalize hn1:X.length+1=n1
    have q2:=q1 k (by omega) hk.2 (by omega)
    have hl1:=λc=>(Zfx c X).trans hn1
    have hl2:=λc cs ty=>Zfw c X cs ty hn1.symm
    have hat:=λc b R=>Zjq c X b R hn1.symm
    have hw1:=λc b b' hc=>Z9w c (X:=X) b b' (N:=[]) hX ClT.nil hc hn1.symm
    have hw2:=λc b b' hc=>Z9w c (X:=X) b b' (N:=Z0q k) hX hN hc hn1.symm
    have hw3:=λ{c c' b} hc hb=>ZaA (c:=c) (c':=c') (X:=X) (b:=b) (N:=Z0q k) hX hN hc hb
    simp only[Ex.cells]at hx
    clear hk hxo q1
    repeat' ((conv=>whnf);first|(refine Z8X (hl1 _) ?_)|(refine Z8Y (hl2 _ _ _) ?_)|(refine Z2r (q2 _ _ _) ?_)|(refine Z41 hsp (hw3 rfl hn1.symm) ?_)|(refine Z41 rfl (hw1 _ _ _ rfl) ?_)|(refine Z41 rfl (hw2 _ _ _ rfl) ?_)|(refine Zak (hat _ _ _) ?_)|(with_reducible refine ixJ i rfl ?_ ?_;focus omega)|refine exI hx ?_|(refine Z0y ?_)|(refine Z0K ?_)|refine stp ?_|with_reducible apply Z03<;>intro h)
    conv=>whnf
    refine⟨i+1,hlt,by show l.length-(i+1)<l.length-i;omega,?_⟩
    dsimp only
    rw[hnx,hcn]
    refine Zfy hX hN hge rfl ?_
    refine Y06 (Y03 rfl rfl rfl (Y01 _) (Y01 _) rfl) ?_
    exact wks
  · have e1:decide ((i:Int)<(l.length:Int))=false:=by simpa using hlt
    have hi2:i=l.length:=by have:=hi;omega
    subst hi2
    have hcl:=ZnW l l.length
    have hpos:=Z5l l
    rw[ZgD]at hcl
    rw[ZgD]
    generalize Z0q l=N at *
    repeat' ((conv=>whnf);first|(refine Z0y ?_)|(refine Z0K ?_)|refine stp ?_|with_reducible apply Z03<;>intro h)
    conv=>whnf
    exact⟨_,Zci hcl,Z9R hcl,Y03 (by rw[Y0x hpos]) rfl rfl (Y01 _) (Y01 _) rfl⟩
end
end
section
variable {gl:Glob}
def Zo2:FamN Y00 gl:={ I:=List Ex,f:=81,G:=λl=>okL l/\sizeL l<=1048576,A:=λl=>[exA l],R:=λl=>.slice 0 0 l.length l.length 4,N:=λl=>Z0q l,body:=(by kernel_rfl),inj:=(λi j _ _ h=>Zgh h),ok:=(λl hl=>⟨rfl,(Z2v l).alive,Zbi _ l (Y01 _) hl.1 hl.2⟩) }
theorem Zfg{i j:List St}(h:[stA i]=[stA j]):AV.slice 0 0 i.length i.length 7=AV.slice 0 0 j.length j.length 7/\Z10 i=Z10 j:=by
 have e:=Z3R (show stA i=stA j by simpa using h)
 subst e;exact⟨rfl,rfl⟩
def cqS(l:List St)(i:Nat)(x:St)(b1 b2 b3:Nat):List AV:=renL (· + 1) (dupSL (l.take i) [] []).1++(Zbl x b1 b2 b3++Z1a (l.length-(i+1)) [.int .i64 0,.str [],.str [],.int .i64 0,.nslice,.nslice,.nslice])
theorem ZlE(l:List St)(i p:Nat)(h:i<l.length)(hp:p=i*7)(x:St)(b1 b2 b3:Nat):spl (cpS l i) p (Zbl x b1 b2 b3)=some (cqS l i x b1 b2 b3):=by
 have hl:(renL (· + 1) (dupSL (l.take i) [] []).1).length=i*7:=by rw[Z0O,Z2s,Y0n,Y0p (by omega)];simp
 have e:l.length-i=(l.length-(i+1))+1:=by omega
 have e1:cpS l i=renL (· + 1) (dupSL (l.take i) [] []).1++([.int .i64 0,.str [],.str [],.int .i64 0,.nslice,.nslice,.nslice]++Z1a (l.length-(i+1)) [.int .i64 0,.str [],.str [],.int .i64 0,.nslice,.nslice,.nslice]):=by unfold cpS;rw[e];rfl
 rw[e1,hp,<- hl,ZhX _ _ _ _ (by rw[Z6Z];rfl)]
 rfl
def tl3(x:St):Z00:=ap (ap (Z0q (sX x)) (Z10 (sT x))) (Z10 (sE x))
theorem Zmm(x:St):ClT (tl3 x).length 0 (tl3 x):=Zj8 (Zj8 (Z2v _) (Z2u _)) (Z2u _)
theorem Zml(X:Z00)(x:St):ap (ap (ap X (Z0q (sX x))) (Z10 (sT x))) (Z10 (sE x))=ap X (tl3 x):=by
 unfold tl3
 rw[Znh (Z2u (sT x)),Znh (Z2u (sE x))]
theorem Zj1(x:St)(a b c d:Nat):renL (· + d) (Zbl x a b c)=Zbl x (a+d) (b+d) (c+d):=by obtain⟨k,m,lc,o,x,t,e⟩:=x;rfl
theorem ZiX(l:List St)(i:Nat)(h:i<l.length){x:St}(hx:l[i]=x):cpS l (i+1)=cqS l i x ((tlS l i).length+1) ((tlS l i).length+(Z0q (sX x)).length+1) ((tlS l i).length+(ap (Z0q (sX x)) (Z10 (sT x))).length+1):=by
 unfold cpS cqS
 rw[Y0s,Y0j h,Y0t,Z5Y]
 unfold nxS
 rw[Z2F,Y02,hx,Zj1]
 have e1:(ap (tlS l i) (Z0q (sX x))).length=(tlS l i).length+(Z0q (sX x)).length:=Z1m _ _
 have e2:(ap (ap (tlS l i) (Z0q (sX x))) (Z10 (sT x))).length=(tlS l i).length+(ap (Z0q (sX x)) (Z10 (sT x))).length:=by rw[Z1m,Z1m,Z1m];omega
 show renL _ _++(Zbl x ((tlS l i).length+1) ((ap (tlS l i) (Z0q (sX x))).length+1) ((ap (ap (tlS l i) (Z0q (sX x))) (Z10 (sT x))).length+1)++_)=_
 rw[e1,e2]
theorem Zn3 (l : List St) (i : Nat) (x : St) : BodyGe (mR (tlS l i).length (tl3 x).length) (.cells (cqS l i x ((tlS l i).length + 2) ((tlS l i).length + (Z0q (sX x)).length + 2) ((tlS l i).length + (ap (Z0q (sX x)) (Z10 (sT x))).length + 2)) 30)
  (.cells (cqS l i x ((tlS l i).length+1) ((tlS l i).length+(Z0q (sX x)).length+1) ((tlS l i).length+(ap (Z0q (sX x)) (Z10 (sT x))).length+1)) 30):=by
 have p1:=Z5l (sX x)
 have p2:0<(Z10 (sT x)).length:=Z2U
 have p3:0<(Z10 (sE x)).length:=Z2U
 have h1:(tl3 x).length=(Z0q (sX x)).length+(Z10 (sT x)).length+(Z10 (sE x)).length:=by unfold tl3;rw[Z1m,Z1m]
 have h2:=Z1m (Z0q (sX x)) (Z10 (sT x))
 have hi:∀j,j<(tl3 x).length->(mR (tlS l i).length (tl3 x).length)[(tlS l i).length+j+1]? = some ((tlS l i).length+j+2):=λj hj=>by
  have:=Zce (x:=(tlS l i).length) hj
  rwa [show (tlS l i).length+1+j=(tlS l i).length+j+1 from by omega,show (tlS l i).length+2+j=(tlS l i).length+j+2 from by omega]at this
 have g0:=hi 0 (by omega)
 have g1:=hi (Z0q (sX x)).length (by omega)
 have g2:=hi (ap (Z0q (sX x)) (Z10 (sT x))).length (by omega)
 unfold cqS
 refine BodyGe.cat (BodyGe.keep (n:=(tlS l i).length+1) (λb hb=>ZfL hb) (Z17 (ZcT l i).2)) rfl (BodyGe.cat ?_ (by rw[Z6Z,Z6Z]) (Y05 (rest:=[]) (by simp) (Z06 (Z0w _ rfl _))))
 generalize (mR (tlS l i).length (tl3 x).length)=mm at *
 obtain⟨k,nm,lc,o,x,t,e⟩:=x
 exact Y0c ⟨Y0f rfl,Wk.str rfl,Wk.str rfl,Y0f rfl,Y03 g0 rfl rfl (Y01 _) (Y01 _) rfl,Y03 g1 rfl rfl (Y01 _) (Y01 _) rfl,Y03 g2 rfl rfl (Y01 _) (Y01 _) rfl,trivial⟩
theorem Zal{c:Prop}{i:Decidable c}{B:¬c->Prop}{A:c->Prop}(h:c)(a:A h):Decidable.rec (motive:=λ_=>Prop) B A i:=by
 cases i with
 |isTrue h'=>exact a
 |isFalse h'=>exact absurd h h'
theorem Z6u{a b:Bool}(h:a=true)(k:b=true):(a&&b)=true:=by rw[h,k];rfl
theorem Zfz(c c':AObj)(X:Z00)(b b':AObj){A B:Z00}(h:A.length<=B.length):Nat.ble (c::(shA 1 X++(b::shA (X.length+2) A))).length (c'::(shA 1 X++(b'::shA (X.length+2) B))).length=true:=by
 rw[Z28,Z28]
 exact Y0O (by omega)
theorem ZnS(A N:Z00):A.length<=(ap A N).length:=by rw[Z1m];omega
theorem Zi2(c:AObj)(X:Z00)(b:AObj)(N:Z00)(c' b':AObj):Nat.ble (c::(shA 1 X++(b::shA (X.length+2) N))).length (c'::(shA 1 X++(b'::shA (X.length+2) N))).length=true:=by
 rw[Z28,Z28]
 exact Y0O (Y01 _)
theorem Zmu(c:AObj)(X:Z00)(b:AObj)(A:Z00){n:Nat}(hn:n=X.length+1):Z0e (c::(shA 1 X++(b::shA (X.length+2) A))).length [n]=true:=by
 rw[Z28]
 exact ZaI (by omega)
theorem Zc2(c:AObj)(X:Z00)(b:AObj)(A:Z00){n q:Nat}(hn:n=X.length+1)(hq:q<X.length+A.length+2):Z0e (c::(shA 1 X++(b::shA (X.length+2) A))).length [n,q]=true:=by
 rw[Z28]
 simp[Z0e,Nat.blt]
 omega
section
attribute [local irreducible] Go.Abs.frcHW Go.Abs.frcNP
theorem Zbh:∀(n:Nat)(l:List St),sizeSL l<=n->okSL l->sizeSL l<=1048576->ZeT Y00 gl 60 [stA l] (.slice 0 0 l.length l.length 7) (Z10 l)
 |n,l,h,hok,hs=>by
  obtain⟨O1,hO1,q0,-⟩:=Z6W (P:=Y00) (gl:=gl) Zo2 Z1K
  obtain⟨O,hO,r0,ho⟩:=Z6W (P:=Y00) (gl:=gl) { I:=List St,f:=60,G:=λl=>sizeSL l<n/\okSL l/\sizeSL l<=1048576,A:=λl=>[stA l],R:=λl=>.slice 0 0 l.length l.length 7,N:=λl=>Z10 l,body:=(by kernel_rfl),inj:=(λi j _ _ h=>Zfg h),ok:=(λl hl=>⟨rfl,(Z2u l).alive,match n,hl.1 with|n+1,h=>Zbh n l (by omega) hl.2.1 hl.2.2⟩) } hO1
  have q1:∀l,okL l->sizeL l<=1048576->∀(c:AObj)(X:Z00)(b:AObj),Z08 Y00 O (c::(shA 1 X++(b::shA (X.length+2) []))) 81 [exA l]=some (.slice (X.length+2) 0 l.length l.length 4,c::(shA 1 X++(b::shA (X.length+2) (Z0q l)))):=λl h1 h2 c X b=>by
   have h:Z08 Y00 O1 (c::(shA 1 X++(b::shA (X.length+2) []))) 81 [exA l]=some (ren (· + (c::(shA 1 X++(b::shA (X.length+2) []))).length) (.slice 0 0 l.length l.length 4),(c::(shA 1 X++(b::shA (X.length+2) [])))++shA (c::(shA 1 X++(b::shA (X.length+2) []))).length (Z0q l)):=q0 l ⟨h1,h2⟩ _
   rw[Z9x c X b [] (Z2v l),Z28,show ap [] (Z0q l)=Z0q l from Z8B (Z2v l)]at h
   simp only[ren,Y0D,Y0b]at h
   rw[ho _ (show (81:Nat)≠60 by decide)]
   exact h
  have q2:∀l,sizeSL l<n->okSL l->sizeSL l<=1048576->∀(c:AObj)(X:Z00)(b:AObj)(A:Z00),Z08 Y00 O (c::(shA 1 X++(b::shA (X.length+2) A))) 60 [stA l]=some (.slice (X.length+A.length+2) 0 l.length l.length 7,c::(shA 1 X++(b::shA (X.length+2) (ap A (Z10 l))))):=λl h1 h2 h3 c X b A=>by
   have h:=r0 l ⟨h1,h2,h3⟩ (c::(shA 1 X++(b::shA (X.length+2) A)))
   simp only[ren]at h
   rw[Z9x c X b A (Z2u l),Z28,Y0b,show A.length+(X.length+2)=X.length+A.length+2 from by omega]at h
   exact h
  clear q0 r0 ho hO1
  have hlen:=Z4z l
  have hm:=ZjA l.length (by omega)
  simp only[stA,exA]at q1 q2⊢
  refine Zg7 follows Z0x hO Tryd.func60 rfl (Z5k _ _) ?_
  repeat' ((conv=>whnf);first|refine exI (hm _) ?_|(refine Z0K ?_)|(refine Z0y ?_)|refine stp ?_|with_reducible apply Z03<;>intro h)
  conv=>whnf
  refine⟨Nat,(λi=>i<=l.length),(λi=>[(3,.slice 0 0 l.length l.length 7),(9,.rs l.length 7 (stC l)),(10,.int .i64 l.length),(11,.int .i64 i)]),(λi=>⟨true,0,0,.cells (cpS l i) 30⟩::shA 1 (tlS l i)),(λi=>l.length-i),⟨0,Y0q _,Y0k [0] rfl ?_ ⟨⟨rfl,rfl,rfl,rfl,Y05 (rest:=[]) ?_ ?_⟩,trivial⟩ rfl⟩,?_⟩
  · refine Y06 (Y03 rfl rfl rfl (Y01 _) (Y01 _) rfl) ?_
    exact wks
  ·rw[ZdH];simp
  ·rw[ZdH];exact Z06 (Z0w _ rfl _)
  intro i hi
  dsimp only
  by_cases hlt:i<l.length
  · have e1:decide ((i:Int)<(l.length:Int))=true:=by simpa using hlt
    have hx:=st7 l i hlt
    have hsz:=Z19 _ _ (Z0c hlt)
    have hxo:=Z1Q hok _ (Z0c hlt)
    have hnx:=(ZhM l i hlt).trans (Zml _ _)
    have hX:=(ZcT l i).1
    have hge:=λx=>@Zn3 l i x
    have hcn:=λx=>@ZiX l i hlt x
    generalize hY:tlS l i=X at *
    generalize hxx:l[i]=x at *
    have hcn:=hcn x rfl
    have hge:=hge x
    have hN:=Zmm x
    have hc1:ClT (Z0q (sX x)).length 0 (Z0q (sX x)):=Z2v _
    have hc2:ClT (ap (Z0q (sX x)) (Z10 (sT x))).length 0 (ap (Z0q (sX x)) (Z10 (sT x))):=Zj8 hc1 (Z2u _)
    have hsp:=ZlE l i (0+i*7) hlt (by omega) x (X.length+2) (X.length+(Z0q (sX x)).length+2) (X.length+(ap (Z0q (sX x)) (Z10 (sT x))).length+2)
    generalize hn1:X.length+1=n1
    have hl1:=λc=>(Zfx c X).trans hn1
    have hl2:=λc cs ty=>Zfw c X cs ty hn1.symm
    have hat:=λc b R=>Zjq c X b R hn1.symm
    have hlt1:=λc b A=>Zmu c X b A hn1.symm
    have hz1:(tl3 x).length=(Z0q (sX x)).length+(Z10 (sT x)).length+(Z10 (sE x)).length:=by unfold tl3;rw[Z1m,Z1m]
    have hz2:=Z1m (Z0q (sX x)) (Z10 (sT x))
    have p1:=Z5l (sX x)
    have p2:0<(Z10 (sT x)).length:=Z2U
    have p3:0<(Z10 (sE x)).length:=Z2U
    have hlt2:=λc b=>Zc2 c X b (tl3 x) hn1.symm (q:=X.length+2) (by omega)
    have hlt3:=λc b=>Zc2 c X b (tl3 x) hn1.symm (q:=X.length+(Z0q (sX x)).length+2) (by omega)
    have hlt4:=λc b=>Zc2 c X b (tl3 x) hn1.symm (q:=X.length+(ap (Z0q (sX x)) (Z10 (sT x))).length+2) (by omega)
    have hw1:=λc b b' hc=>Z9w c (X:=X) b b' (N:=[]) hX ClT.nil hc hn1.symm
    have hw2:=λc b b' hc=>Z9w c (X:=X) b b' (N:=tl3 x) hX hN hc hn1.symm
    have hw3:=λ{c c' b} hc hb=>ZaA (c:=c) (c':=c') (X:=X) (b:=b) (N:=tl3 x) hX hN hc hb
    obtain⟨k,m,c,o,x,t,e⟩:=x
    have hk:=Z38 hxo
    simp only[St.exprs,St.name,St.loc,St.thn,St.els]at hk
    obtain⟨_,_,_,_,_,hx2,ht2,he2⟩:=hk
    simp only[Z1U]at hsz
    have q3:=q1 x hx2 (by omega)
    have q4:=λc b=>q2 t (by omega) ht2 (by omega) c X b (Z0q x)
    have q5:=λc b=>q2 e (by omega) he2 (by omega) c X b (ap (Z0q x) (Z10 t))
    simp only[tl3,sX,sT,sE,Zbl]at hsp hcn hge hnx hN hw2 hw3 hc1 hc2 hlt2 hlt3 hlt4
    simp only[St.cells,exA]at hx
    clear hxo q1 q2
    repeat' ((conv=>whnf);first|(refine Z8X (hl1 _) ?_)|(refine Z8Y (hl2 _ _ _) ?_)|(refine Zal (Zfz _ _ _ _ _ (Y0q _)) ?_)|(refine Zal (Zfz _ _ _ _ _ (ZnS _ _)) ?_)|(refine Zal (Zi2 _ _ _ _ _ _) ?_)|(refine Zal (Z6u rfl (hlt2 _ _)) ?_)|(refine Zal (Z6u rfl (hlt3 _ _)) ?_)|(refine Zal (Z6u rfl (hlt4 _ _)) ?_)|(refine Zal (Z6u rfl (hlt1 _ _ _)) ?_)|(refine Z2r (q3 _ _ _) ?_)|(refine Z2r (q4 _ _) ?_)|(refine Z2r (q5 _ _) ?_)|(refine Z41 hsp (hw3 rfl hn1.symm) ?_)|(refine Z41 rfl (hw1 _ _ _ rfl) ?_)|(refine Z41 rfl (hw2 _ _ _ rfl) ?_)|(refine Zak (hat _ _ _) ?_)|(with_reducible refine ixJ i rfl ?_ ?_;focus omega)|refine exI hx ?_|(refine Z0y ?_)|(refine Z0K ?_)|refine stp ?_|with_reducible apply Z03<;>intro h)
    conv=>whnf
    refine⟨i+1,hlt,by show l.length-(i+1)<l.length-i;omega,?_⟩
    dsimp only
    rw[hnx,hcn]
    refine Zfy hX hN hge rfl ?_
    refine Y06 (Y03 rfl rfl rfl (Y01 _) (Y01 _) rfl) ?_
    exact wks
  · have e1:decide ((i:Int)<(l.length:Int))=false:=by simpa using hlt
    have hi2:i=l.length:=by have:=hi;omega
    subst hi2
    have hcl:=ZnV l l.length
    have hpos:0<(Z10 l).length:=Z2U
    rw[ZgC]at hcl
    rw[ZgC]
    generalize Z10 l=N at *
    repeat' ((conv=>whnf);first|(refine Z0y ?_)|(refine Z0K ?_)|refine stp ?_|with_reducible apply Z03<;>intro h)
    conv=>whnf
    exact⟨_,Zci hcl,Z9R hcl,Y03 (by rw[Y0x hpos]) rfl rfl (Y01 _) (Y01 _) rfl⟩
end
end
section
theorem msC {P : Program} {t e : TypeId} {z b : Nat} {u : AV} (ht : P.underlying t = some (.slice e)) (hz : tsz P e = some z) (hb : (P.info? e).map (·.bytes) = some b) (hu : Z1o P e = some u) (hul : u.cells.length = z) (hz0 : z ≠ 0) (n : Nat)
  (h:n<=1099511627776) (h2:b*n<=140737488355328):Z4v P t (.int .i64 n) (.int .i64 n)=some (Z1a n u.cells,e,z,n,n):=by
 cases hi:P.info? e with
 |none=>rw[hi]at hb;cases hb
 |some i =>
  rw[hi]at hb
  simp only[Y0G,Option.some.injEq]at hb
  have h2':(b:Int)*(n:Int)<=140737488355328:=by
   have:((b*n:Nat):Int)<=((140737488355328:Nat):Int):=Int.ofNat_le.2 h2
   simpa using this
  simp only[Z4v,ht,hz,hi,hb,hu]
  rw[if_pos ⟨by omega,by omega,by omega,h2'⟩]
  by_cases hn:n=0
  ·subst hn;simp[Z1a]
  · have h0:¬(n*z=0):=λe=>by rcases Nat.mul_eq_zero.1 e with e|e;exact hn e;exact hz0 e
    simp only[Int.toNat_natCast]
    rw[if_neg h0,if_pos hul]
theorem Zib {P : Program} {ρ : Operand -> Option AV} {t e ty : TypeId} {z n : Nat} {zs : List AV} {d : Option Nat} {l : Operand} {p : String} {af : Array Edge} {gu : Option (Nat × Bool)} (h : Z4v P t (.int .i64 n) (.int .i64 n) = some (zs, e, z, n, n)) (hl : ρ l = some (.int .i64 n)) :
  Z0t P ρ { dst:=d,op:=.makeSlice t l l,type:=ty,pos:=p,after:=af,guard:=gu }=some (λb=>.slice b 0 n n z,.cells zs e):=by
 simp only[Z0t,hl,h]
theorem Zd3(z:List AV):∀n,(Z1a n z).length=n*z.length
 |0=>by simp[Z1a]
 |n+1=>by simp only[Z1a,Y0a,Zd3 z n];rw[Nat.add_mul];omega
theorem ZlT{m:List Nat}{a b a2 b2:AV}{ty:TypeId}(h1:Wk m a a2)(h2:Wk m b b2):BodyGe m (.cells [a,b] ty) (.cells [a2,b2] ty):=by
 refine⟨rfl,Y01 _,λi c hc=>?_⟩
 match i,hc with
 |0,hc=>simp only[Y0w,Option.some.injEq]at hc;subst hc;exact⟨a,rfl,h1⟩
 |1,hc=>simp only[Y0l,Y0w,Option.some.injEq]at hc;subst hc;exact⟨b,rfl,h2⟩
 |n+2,hc=>simp at hc
theorem ZiA{H:Z00}{n:Nat}{a b a' b':AV}(h1:frz H n a=some a')(h2:frz H n b=some b'):frz H (n+1) (.agg [a,b])=some (.agg [a',b']):=by
 show (match frzL (frz H n) [a,b] with|some l=>some (AV.agg l)|none=>none)=_
 simp only[frzL,h1,h2]
end
section
theorem ZjC(n:Nat)(h:n<=1048576):Z4v Y00 22 (.int .i64 n) (.int .i64 n)=some (Z1a n [.str [],.bool false,.int .i64 0],53,3,n,n):=by
 have hz:tsz Y00 53=some 3:=by kernel_rfl
 have hb:(Y00.info? 53).map (·.bytes)=some 32:=by kernel_rfl
 have hu:Z1o Y00 53=some (.agg [.str [],.bool false,.int .i64 0]):=by kernel_rfl
 exact msC Tryd.underlying22 hz hb hu rfl (by decide) n (by omega) (by omega)
theorem Z60:∀l:List Dc,(dcC l).length=l.length*3
 |[]=>by simp only[dcC];rfl
 |d::l=>by simp only[dcC,Dc.cells,Y0a,Z60 l,Y04,Y0D];omega
theorem Z1S:∀l:List Dc,(dcC l).all Z6C=true
 |[]=>by simp only[dcC];rfl
 |d::l=>by simp only[dcC,Dc.cells,Y0A,Z1S l,Y0g];rfl
theorem Zgy:∀l:List Dc,(dcC l).all Go.Abs.one=true
 |[]=>by simp only[dcC];rfl
 |d::l=>by simp only[dcC,Dc.cells,Y0A,Zgy l,Y0g];rfl
end
section
variable {gl:Glob}
theorem Zjz(n:Nat)(h:n<=1048576):Z4v Y00 23 (.int .i64 n) (.int .i64 n)=some (Z1a n [.nslice],28,1,n,n):=by
 have hz:tsz Y00 28=some 1:=by kernel_rfl
 have hb:(Y00.info? 28).map (·.bytes)=some 24:=by kernel_rfl
 have hu:Z1o Y00 28=some .nslice:=by kernel_rfl
 exact msC Tryd.underlying23 hz hb hu rfl (by decide) n (by omega) (by omega)
theorem Zn9(ds:List Dc)(b0 b1 b3 b4:ABody):Zaf Y00 22 (.slice 2 0 ds.length ds.length 3) (.rs ds.length 3 (dcC ds)) [⟨true,0,0,b0⟩,⟨true,1,0,b1⟩,⟨true,2,0,.cells (Z1a ds.length [.str [],.bool false,.int .i64 0]) 53⟩,⟨true,3,0,b3⟩,⟨true,4,0,b4⟩]=some (.int .i64 ds.length,[⟨true,0,0,b0⟩,⟨true,1,0,b1⟩,⟨true,2,0,.cells (dcC ds) 53⟩,⟨true,3,0,b3⟩,⟨true,4,0,b4⟩]):=by
 have hz:tsz Y00 53=some 3:=by kernel_rfl
 have hmin:Nat.min ds.length ds.length=ds.length:=Nat.min_self _
 have hsp:spl (Z1a ds.length [AV.str [],.bool false,.int .i64 0]) 0 (dcC ds)=some (dcC ds):=by
  have:=ZhX [] (Z1a ds.length [AV.str [],.bool false,.int .i64 0]) [] (dcC ds) (by rw[Zd3,Z60];rfl)
  simpa using this
 unfold Zaf
 simp only[Tryd.underlying22,hz,Z2Y,if_true,hmin]
 by_cases h0:ds.length=0
 · have:ds=[]:=Y18 h0
   subst this;rfl
 · rw[if_neg h0,ZcV (Z60 ds)]
   simp only[wr,Y0l,Y0w,Zgy,if_true,hsp]
   rfl
def ZdZ(l:List (List St))(i:Nat):List AV:=(l.take i).map stA++Z1a (l.length-i) [.nslice]
theorem ZhP(l:List (List St))(i k:Nat)(h:i<l.length)(hk:k=i*1):spl (ZdZ l i) k [stA l[i]]=some (ZdZ l (i+1)):=by
 have e:l.length-i=(l.length-(i+1))+1:=by omega
 have hl:((l.take i).map stA).length=k:=by rw[List.length_map,Y0n];omega
 have h1:ZdZ l i=(l.take i).map stA++([.nslice]++Z1a (l.length-(i+1)) [.nslice]):=by unfold ZdZ;rw[e];rfl
 rw[h1,<- hl,ZhX _ _ _ _ (by simp)]
 unfold ZdZ
 rw[Y0s,Y0j h]
 simp only[Y0t,Y0X,Y0r,List.map_nil,Y02]
theorem Zfb(l:List (List St)):ZdZ l 0=Z1a l.length [.nslice]:=by simp[ZdZ]
theorem ZhQ(l:List (List St)):ZdZ l l.length=l.map stA:=by simp[ZdZ,Z1a]
theorem ZbQ:∀l:List (List St),(l.map stA).all Z6C=true
 |[]=>rfl
 |x::l=>by simp only[Y0r,List.all_cons,ZbQ l,Y0g];rfl
theorem Zas(l:List (List St))(i:Nat):refsL (ZdZ l i) []=[]:=by
 refine Z06 ?_
 unfold ZdZ
 rw[Y0A,Z26 (ZbQ _),Z0w _ rfl,Y0g]
theorem ZiZ(p:Pr)(hok:okP p)(hs:Z0j p.threads<=1048576)(hd:p.decls.length<=1048576)(ht:p.threads.length<=1048576):Z0k Y00 gl 25 [p.av] p.av:=by
 obtain⟨ds,ts⟩:=p
 obtain⟨⟨hd1,hd2⟩,ht1,ht2⟩:=hok
 obtain⟨O,hO,p1,-⟩:=fams (P:=Y00) (gl:=gl) [{ I:=List St,f:=60,G:=λl=>okSL l/\sizeSL l<=1048576,A:=λl=>[stA l],R:=λl=>stA l,body:=(by kernel_rfl),inj:=(λi j _ _ h=>by simp only[List.cons.injEq,and_true]at h;exact h),ok:=(λl hl=>⟨rfl,ZdJ _ l (Y01 _) hl.1 hl.2⟩) }] rfl
 have q1:∀l,okSL l->sizeSL l<=1048576->∀H,Z08 Y00 O H 60 [stA l]=some (stA l,H):=λl h1 h2=>p1 l ⟨h1,h2⟩
 clear p1
 have hmd:=ZjC ds.length hd
 have hmt:=Zjz ts.length ht
 have hrd:∀k,Z0e k (Z36 (.cells (Z1a ds.length [.str [],.bool false,.int .i64 0]) 53) [])=true:=λk=>by
  have:Z36 (.cells (Z1a ds.length [.str [],.bool false,.int .i64 0]) 53) []=[]:=Z06 (Z0w _ rfl _)
  rw[this];rfl
 have hrt:∀k,Z0e k (Z36 (.cells (Z1a ts.length [.nslice]) 28) [])=true:=λk=>by
  have:Z36 (.cells (Z1a ts.length [.nslice]) 28) []=[]:=Z06 (Z0w _ rfl _)
  rw[this];rfl
 simp only[Pr.av]at *
 refine Z0C follows Z0x hO Tryd.func25 rfl ?_
 repeat' ((conv=>whnf);first|(rw[Zib hmd];rotate_left;(focus (rfl));dsimp only;rw[if_pos (hrd _)])|(rw[Zib hmt];rotate_left;(focus (rfl));dsimp only;rw[if_pos (hrt _)])|refine exI (Zn9 ds _ _ _ _) ?_|refine stp ?_|with_reducible apply Z03<;>intro h)
 conv=>whnf
 refine⟨Nat,(λi=>i<=ts.length),(λi=>[(2,.ptr 0 0),(3,.ptr 1 0),(21,.rs ts.length 1 (ts.map stA)),(22,.int .i64 ts.length),(23,.int .i64 i)]),(λi=>[⟨true,0,0,.cells [.nslice,.nslice] 25⟩,⟨true,1,0,.cells [.slice 2 0 ds.length ds.length 3,.slice 3 0 ts.length ts.length 1] 25⟩,⟨true,2,0,.cells (dcC ds) 53⟩,⟨true,3,0,.cells (ZdZ ts i) 28⟩]),(λi=>ts.length-i),⟨0,Y0q _,Y0k [1,4,2,3] rfl ?_ ⟨hbp,⟨rfl,rfl,rfl,rfl,ZlT (Y03 rfl rfl rfl (Y01 _) (Y01 _) rfl) (Y03 rfl rfl rfl (Y01 _) (Y01 _) rfl)⟩,⟨rfl,rfl,rfl,rfl,Y05 (rest:=[]) (by simp) (Z06 (Z26 (Z1S _)))⟩,⟨rfl,rfl,rfl,rfl,Y05 (rest:=[]) (by rw[Zfb];simp) (Zas ts 0)⟩,trivial⟩ rfl⟩,?_⟩
 ·exact wks
 intro i hi
 dsimp only
 by_cases hlt:i<ts.length
 · have e1:decide ((i:Int)<(ts.length:Int))=true:=by simpa using hlt
   have hx:=th1 ts i hlt
   have hsp:=ZhP ts i (0+i*1) hlt (by omega)
   have hk:=Z2H ht1 _ (Z0c hlt)
   have hsz:=Z34 _ _ (Z0c hlt)
   have q2:=q1 ts[i] hk.1 (by omega)
   generalize hnx:ZdZ ts (i+1)=nx at *
   generalize ts[i]=x at *
   simp only[stA]at hx hsp q2
   repeat' ((conv=>whnf);first|with_reducible refine exI (q2 _) ?_|(with_reducible refine ixJ i rfl ?_ ?_;focus omega)|refine exI hx ?_|refine exI hsp ?_|refine stp ?_|with_reducible apply Z03<;>intro h)
   conv=>whnf
   refine⟨i+1,hlt,by show ts.length-(i+1)<ts.length-i;omega,Y0k [0,1,2,3] rfl ?_ ⟨hbp,⟨rfl,rfl,rfl,rfl,ZlT (Y03 rfl rfl rfl (Y01 _) (Y01 _) rfl) (Y03 rfl rfl rfl (Y01 _) (Y01 _) rfl)⟩,⟨rfl,rfl,rfl,rfl,Y05 (rest:=[]) (by simp) (Z06 (Z26 (Z1S _)))⟩,⟨rfl,rfl,rfl,rfl,Y05 (rest:=[]) (by rw[hnx];simp) (Zas ts (i+1))⟩,trivial⟩ rfl⟩
   exact wks
 · have e1:decide ((i:Int)<(ts.length:Int))=false:=by simpa using hlt
   have hi2:i=ts.length:=by have:=hi;omega
   subst hi2
   rw[ZhQ]
   repeat' ((conv=>whnf);first|refine stp ?_|with_reducible apply Z03<;>intro h)
   conv=>whnf
   exact⟨_,ZiA (n:=29) (Z4l (n:=27) (b:=2) rfl (Z60 ds) (Z1S ds)) (Z4l (n:=27) (b:=3) rfl (by simp) (ZbQ ts)),rfl⟩
end
section
variable {gl:Glob}
def hP(ds:List Dc)(ts:List (List St))(i:Nat):Z00:=⟨true,0,0,.cells [.nslice,.nslice] 25⟩::⟨true,1,0,.cells [.slice 2 0 ds.length ds.length 3,.slice 3 0 ts.length ts.length 1] 25⟩::⟨true,2,0,.cells (dcC ds) 53⟩::⟨true,3,0,.cells (cpT 4 ts i) 28⟩::shA 4 (tlT ts i)
theorem ZmI(ds:List Dc)(ts:List (List St))(i:Nat):ClT (hP ds ts i).length 0 (hP ds ts i):=by
 have hl:(hP ds ts i).length=(tlT ts i).length+4:=by unfold hP;simp only[Y04,Z0a]
 rw[hl]
 have hd:refsL (dcC ds) []=[]:=Z06 (Z26 (Z1S ds))
 refine ClT.cons ⟨rfl,rfl,rfl,_,_,rfl,rfl⟩ (ClT.cons ⟨rfl,rfl,rfl,_,_,rfl,?_⟩ (ClT.cons ⟨rfl,rfl,rfl,_,_,rfl,by rw[hd];rfl⟩ (ClT.cons ⟨rfl,rfl,rfl,_,_,rfl,Zn6 4 ts i⟩ ?_)))
 · show Z0e _ [2,3]=true
   simp[Z0e,Nat.blt]
 · have:=(ZcS ts i).1.sh (d:=4)
   simpa using this
def Zo0:FamN Y00 gl:={ I:=List St,f:=60,G:=λl=>okSL l/\sizeSL l<=1048576,A:=λl=>[stA l],R:=λl=>.slice 0 0 l.length l.length 7,N:=λl=>Z10 l,body:=(by kernel_rfl),inj:=(λi j _ _ h=>Zfg h),ok:=(λl hl=>⟨rfl,(Z2u l).alive,Zbh _ l (Y01 _) hl.1 hl.2⟩) }
theorem Z5h(a b c d:AObj)(X:Z00):(a::b::c::d::shA 4 X).length=X.length+4:=by simp only[Y04,Z0a]
theorem ZiH(a b c d a' b' c' d':AObj)(X N:Z00):Nat.ble (a::b::c::d::shA 4 X).length (a'::b'::c'::d'::shA 4 (ap X N)).length=true:=by
 rw[Z5h,Z5h,Z1m];exact Y0O (by omega)
theorem Zg4(a b c d a' b' c' d':AObj)(X:Z00):Nat.ble (a::b::c::d::shA 4 X).length (a'::b'::c'::d'::shA 4 X).length=true:=by
 rw[Z5h,Z5h];exact Y0O (Y01 _)
theorem Zlh(a b c d:AObj)(X N:Z00)(hN:0<N.length):Z0e (a::b::c::d::shA 4 (ap X N)).length [3,X.length+4]=true:=by
 rw[Z5h,Z1m];simp[Z0e,Nat.blt];omega
theorem ZgE(p:Pr)(hok:okP p)(hs:Z0j p.threads<=1048576)(hd:p.decls.length<=1048576)(ht:p.threads.length<=1048576):ZeT Y00 gl 25 [p.av] (.agg [.slice 0 0 p.decls.length p.decls.length 3,.slice 1 0 p.threads.length p.threads.length 1]) (ZjT p):=by
 obtain⟨ds,ts⟩:=p
 obtain⟨⟨hd1,hd2⟩,ht1,ht2⟩:=hok
 obtain⟨O,hO,r0,-⟩:=Z6W (P:=Y00) (gl:=gl) Zo0 Z1K
 have q1:∀l,okSL l->sizeSL l<=1048576->∀(X:Z00)(a b c d:AObj),Z08 Y00 O (a::b::c::d::shA 4 X) 60 [stA l]=some (.slice (X.length+4) 0 l.length l.length 7,a::b::c::d::shA 4 (ap X (Z10 l))):=λl h1 h2 X a b c d=>by
  have h:Z08 Y00 O ([a,b,c,d]++shA 4 X) 60 [stA l]=some (ren (· + ([a,b,c,d]++shA 4 X).length) (.slice 0 0 l.length l.length 7),([a,b,c,d]++shA 4 X)++shA ([a,b,c,d]++shA 4 X).length (Z10 l)):=r0 l ⟨h1,h2⟩ ([a,b,c,d]++shA 4 X)
  rw[Zj9 (L:=[a,b,c,d]) (d:=4) rfl (Z2u l)]at h
  rw[Y0a,Z0a,Y0o]at h
  simp only[ren,Y0b]at h
  exact h
 clear r0
 have hmd:=ZjC ds.length hd
 have hmt:=Zjz ts.length ht
 have hrd:∀k,Z0e k (Z36 (.cells (Z1a ds.length [.str [],.bool false,.int .i64 0]) 53) [])=true:=λk=>by
  have:Z36 (.cells (Z1a ds.length [.str [],.bool false,.int .i64 0]) 53) []=[]:=Z06 (Z0w _ rfl _)
  rw[this];rfl
 have hrt:∀k,Z0e k (Z36 (.cells (Z1a ts.length [.nslice]) 28) [])=true:=λk=>by
  have:Z36 (.cells (Z1a ts.length [.nslice]) 28) []=[]:=Z06 (Z0w _ rfl _)
  rw[this];rfl
 simp only[Pr.av,stA]at *
 refine Zg7 follows Z0x hO Tryd.func25 rfl (Z5k _ _) ?_
 repeat' ((conv=>whnf);first|(rw[Zib hmd];rotate_left;(focus (rfl));dsimp only;rw[if_pos (hrd _)])|(rw[Zib hmt];rotate_left;(focus (rfl));dsimp only;rw[if_pos (hrt _)])|refine exI (Zn9 ds _ _ _ _) ?_|refine stp ?_|with_reducible apply Z03<;>intro h)
 conv=>whnf
 refine⟨Nat,(λi=>i<=ts.length),(λi=>[(2,.ptr 0 0),(3,.ptr 1 0),(21,.rs ts.length 1 (ts.map stA)),(22,.int .i64 ts.length),(23,.int .i64 i)]),(λi=>hP ds ts i),(λi=>ts.length-i),⟨0,Y0q _,?_⟩,?_⟩
 · refine Y0k [1,4,2,3] rfl ?_ ⟨hbp,⟨rfl,rfl,rfl,rfl,ZlT (Y03 rfl rfl rfl (Y01 _) (Y01 _) rfl) (Y03 rfl rfl rfl (Y01 _) (Y01 _) rfl)⟩,⟨rfl,rfl,rfl,rfl,Y05 (rest:=[]) (by simp) (Z06 (Z26 (Z1S _)))⟩,⟨rfl,rfl,rfl,rfl,Y05 (rest:=[]) (by rw[ZdG];simp) (by rw[ZdG];exact Z06 (Z0w _ rfl _))⟩,trivial⟩ rfl
   exact wks
 intro i hi
 dsimp only
 by_cases hlt:i<ts.length
 · have e1:decide ((i:Int)<(ts.length:Int))=true:=by simpa using hlt
   have hx:=th1 ts i hlt
   have hsp:=ZlH 4 ts i (0+i*1) hlt (by omega)
   have hk:=Z2H ht1 _ (Z0c hlt)
   have hsz:=Z34 _ _ (Z0c hlt)
   have hcl:=ZmI ds ts (i+1)
   have hnx:=ZhL ts i hlt
   have q2:=q1 ts[i] hk.1 (by omega) (tlT ts i)
   simp only[stA]at hx
   unfold hP at hcl⊢
   rw[hnx]at hcl
   have hwk : ∀ (c c' : List AV), (Z30 3 3 ((⟨true, 0, 0, .cells [.nslice, .nslice] 25⟩ : AObj) :: ⟨true, 1, 0, .cells [.slice 2 0 ds.length ds.length 3, .slice 3 0 ts.length ts.length 1] 25⟩ :: ⟨true, 2, 0, .cells (dcC ds) 53⟩ :: ⟨true, 3, 0, .cells c 28⟩ :: shA 4 (ap (tlT ts i) (Z10 ts[i])))).set 3 ⟨true, 3, 0, .cells c' 28⟩ =
     (⟨true,0,0,.cells [.nslice,.nslice] 25⟩:AObj)::⟨true,1,0,.cells [.slice 2 0 ds.length ds.length 3,.slice 3 0 ts.length ts.length 1] 25⟩::⟨true,2,0,.cells (dcC ds) 53⟩::⟨true,3,0,.cells c' 28⟩::shA 4 (ap (tlT ts i) (Z10 ts[i])):=λc c'=>by
    rw[Z4R λj o hj hne=>?_]
    ·rfl
    match j,hj with
    |0,hj=>cases hj;exact (by decide:(0:Nat)≠3)
    |1,hj=>cases hj;exact (by decide:(1:Nat)≠3)
    |2,hj=>cases hj;exact (by decide:(2:Nat)≠3)
    |3,hj=>exact absurd rfl hne
    |j+4,hj =>
     have:=(hcl (j+4) o (by simpa using hj)).2.1
     omega
   generalize tlT ts i=X at *
   generalize hcn:cpT 4 ts (i+1)=nc at *
   generalize ts[i]=x at *
   have hpos:0<(Z10 x).length:=Z2U
   repeat' ((conv=>whnf);first|(refine Zal (ZiH _ _ _ _ _ _ _ _ _ _) ?_)|(refine Zal (Zg4 _ _ _ _ _ _ _ _ _) ?_)|(refine Zal (Z6u rfl (Zlh _ _ _ _ _ _ hpos)) ?_)|(refine Z2r (q2 _ _ _ _) ?_)|(refine Z41 hsp (hwk _ _) ?_)|(with_reducible refine ixJ i rfl ?_ ?_;focus omega)|refine exI hx ?_|(refine Z0y ?_)|refine stp ?_|with_reducible apply Z03<;>intro h)
   conv=>whnf
   refine⟨i+1,hlt,by show ts.length-(i+1)<ts.length-i;omega,?_⟩
   (try dsimp only)
   rw[hnx,hcn]
   refine FgLK.keep hcl rfl rfl ?_
   exact wks
 · have e1:decide ((i:Int)<(ts.length:Int))=false:=by simpa using hlt
   have hi2:i=ts.length:=by have:=hi;omega
   subst hi2
   have hcl:=ZmI ds ts ts.length
   have hX:=(ZcS ts ts.length).1
   have hlt2:=(ZcS ts ts.length).2
   unfold hP at hcl⊢
   have hwk:∀a':AObj,(Z30 0 0 ((⟨true,0,0,.cells [.nslice,.nslice] 25⟩:AObj)::⟨true,1,0,.cells [.slice 2 0 ds.length ds.length 3,.slice 3 0 ts.length ts.length 1] 25⟩::⟨true,2,0,.cells (dcC ds) 53⟩::⟨true,3,0,.cells (cpT 4 ts ts.length) 28⟩::shA 4 (tlT ts ts.length))).set 0 a'=a'::(⟨true,1,0,.cells [.slice 2 0 ds.length ds.length 3,.slice 3 0 ts.length ts.length 1] 25⟩:AObj)::⟨true,2,0,.cells (dcC ds) 53⟩::⟨true,3,0,.cells (cpT 4 ts ts.length) 28⟩::shA 4 (tlT ts ts.length):=λa'=>by
    rw[Zmk hcl];rfl
   have hcp:ZjT ⟨ds,ts⟩=[⟨true,0,0,.cells (dcC ds) 53⟩,⟨true,1,0,.cells (renL (· + 2) (Z1r ts [] []).1) 28⟩]++shA 2 (tlT ts ts.length):=by rw[Zkf];rfl
   rw[hcp]
   have hct:cpT 4 ts ts.length=renL (· + 4) (Z1r ts [] []).1:=ZlI 4 ts
   rw[Y0u]at hlt2
   clear hcl hcp
   rw[hct]at hwk⊢
   generalize tlT ts ts.length=X at *
   generalize (Z1r ts [] []).1=C at *
   repeat' ((conv=>whnf);first|(refine Z41 rfl (hwk _) ?_)|(refine Z0y ?_)|refine stp ?_|with_reducible apply Z03<;>intro h)
   conv=>whnf
   refine⟨[2,3]++List.range' 4 X.length,HpGe.app ⟨⟨rfl,rfl,rfl,rfl,Y05 (rest:=[]) (by simp) (Z06 (Z26 (Z1S _)))⟩,⟨rfl,rfl,rfl,rfl,BodyGe.mv hlt2 λi hi=>ZaP (ml:=[2,3]) (d2:=2) rfl i hi⟩,trivial⟩ (Z5P hX (λi o h=>Z84 (L:=[_,_,_,_]) rfl i o h) λi hi=>ZaP (ml:=[2,3]) (d2:=2) rfl i hi),Z6N hX (λi o h=>Z84 (L:=[_,_,_,_]) rfl i o h) rfl (λf hf=>?_),Wk.agg ⟨Y03 rfl rfl rfl (Y01 _) (Y01 _) rfl,Y03 rfl rfl rfl (Y01 _) (Y01 _) rfl,trivial⟩⟩
   have:f=2\/f=3:=by simpa[Z1b]using hf
   omega
end
section
variable {gl:Glob}
theorem ZlK(p:Pr):ClT (ZjT p).length 0 (ZjT p):=by
 have h:=Z5X p.threads [] [] Gd.nil
 have hl:(ZjT p).length=(Z1r p.threads [] []).2.length+2:=by unfold ZjT;simp only[Y04,Z0a]
 rw[hl]
 have hd:refsL (dcC p.decls) []=[]:=Z06 (Z26 (Z1S p.decls))
 refine ClT.cons ⟨rfl,rfl,rfl,_,_,rfl,by rw[hd];rfl⟩ (ClT.cons ⟨rfl,rfl,rfl,_,_,rfl,Z17 h.2⟩ ?_)
 have:=h.1.sh (d:=2)
 simpa using this
theorem Zgz:∀l:List Dc,(dcC l).all lit=true
 |[]=>by simp only[dcC];rfl
 |d::l=>by simp only[dcC,Dc.cells,Y0A,Zgz l,Y0g];rfl
theorem Zgx(f:Nat->Nat):∀l:List Dc,renL f (dcC l)=dcC l
 |[]=>by simp only[dcC];rfl
 |d::l=>by simp only[dcC,Dc.cells,Z2F,Zgx f l];rfl
theorem ZlJ(c:AObj)(ds:List Dc)(ts:List (List St)):[c]++shA 1 (ZjT ⟨ds,ts⟩)=c::⟨true,1,0,.cells (dcC ds) 53⟩::⟨true,2,0,.cells (renL (· + 3) (Z1r ts [] []).1) 28⟩::shA 3 (Z1r ts [] []).2:=by
 have h:=(Z5X ts [] [] Gd.nil).1
 have h2:shA 1 (shA 2 (Z1r ts [] []).2)=shA 3 (Z1r ts [] []).2:=Z7h h
 have h3:shO 1 ⟨true,0,0,.cells (dcC ds) 53⟩=⟨true,1,0,.cells (dcC ds) 53⟩:=by simp only[shO,Zaj,Zgx]
 have h4:shO 1 ⟨true,1,0,.cells (renL (· + 2) (Z1r ts [] []).1) 28⟩=⟨true,2,0,.cells (renL (· + 3) (Z1r ts [] []).1) 28⟩:=by simp only[shO,Zaj,renL_renL,Y0y]
 show c::shO 1 _::shO 1 _::shA 1 (shA 2 (Z1r ts [] []).2)=_
 rw[h2,h3,h4]
theorem Ziv (ds : List Dc) (ts : List (List St)) (hsz : Z0j ts <= 3000) (H : Z00) (h1 : H[1]? = some ⟨true, 1, 0, .cells (dcC ds) 53⟩) (h2 : H[2]? = some ⟨true, 2, 0, .cells (renL (· + 3) (Z1r ts [] []).1) 28⟩) (hE : Emb H 3 (Z1r ts [] []).2) :
  frzL (frz H 4000) [.agg [.slice 1 0 ds.length ds.length 3,.slice 2 0 ts.length ts.length 1],.agg [.rs ds.length 3 (dcC ds),.rs ts.length 1 (ts.map stA)]]=some [.agg [.rs ds.length 3 (dcC ds),.rs ts.length 1 (ts.map stA)],.agg [.rs ds.length 3 (dcC ds),.rs ts.length 1 (ts.map stA)]]:=by
 have f1:frz H 3999 (.slice 1 0 ds.length ds.length 3)=some (.rs ds.length 3 (dcC ds)):=Z5e h1 (Z60 ds) (Zdr (Zgz ds))
 have f2:frz H 3999 (.slice 2 0 ts.length ts.length 1)=some (.rs ts.length 1 (ts.map stA)):=Z5e h2 (by rw[Z0O,Z6X];simp) (Zdp H ts 3997 3 [] [] (Z1r ts [] []).1 (Z1r ts [] []).2 (by omega) (by simp) (by simpa using hE))
 have g1:frz H 4000 (.agg [.slice 1 0 ds.length ds.length 3,.slice 2 0 ts.length ts.length 1])=some (.agg [.rs ds.length 3 (dcC ds),.rs ts.length 1 (ts.map stA)]):=by
  unfold frz
  simp only[frzL,f1,f2]
 have g2:frz H 4000 (.agg [.rs ds.length 3 (dcC ds),.rs ts.length 1 (ts.map stA)])=some (.agg [.rs ds.length 3 (dcC ds),.rs ts.length 1 (ts.map stA)]):=rfl
 simp only[frzL,g1,g2]
def Own(d:Nat)(H:Z00):Prop:=∀i o,H[i]? = some o->o.fam=d+i
theorem Own.nil{d:Nat}:Own d []:=λi o h=>by cases h
theorem Own.cons{d:Nat}{o:AObj}{H:Z00}(h:o.fam=d)(k:Own (d+1) H):Own d (o::H):=λi x hi=>by
 cases i with
 |zero=>simp only[Y0w,Option.some.injEq]at hi;subst hi;exact h
 |succ i=>have:=k i x (by simpa using hi);omega
theorem Own.app{d e:Nat}{A B:Z00}(h:Own d A)(k:Own e B)(he:e=d+A.length):Own d (A++B):=λi o hi=>by
 subst he
 by_cases hl:i<A.length
 ·rw[Y0d hl]at hi;exact h i o hi
 · rw[Y08 (by omega)]at hi
   have:=k _ o hi
   omega
theorem Own.tl{d n:Nat}{X:Z00}(h:ClT n 0 X):Own d (shA d X):=λi o hi=>by
 have:=(h.sh (d:=d) i o hi).2.1
 omega
theorem Own.wk{H:Z00}(h:Own 0 H)(b:Nat):Z30 b b H=H:=Z4R λi o hi hne=>by
 have:=h i o hi
 omega
theorem ZjY{L X R:Z00}{b:AObj}{d n:Nat}(hL:L.length=d)(hn:n=X.length+d):(L++(shA d X++(b::R)))[n]? = some b:=by
 subst hn hL
 rw[Y08 (by omega),Y0L,Y08 (by rw[Z0a];exact Y01 _),Z0a,Y0v]
 rfl
theorem ZjX{L X R:Z00}{b b':AObj}{d n:Nat}(hL:L.length=d)(hn:n=X.length+d):(L++(shA d X++(b::R))).set n b'=L++(shA d X++(b'::R)):=by
 subst hn hL
 rw[Y0J _ _ (by omega),Y0L,Y0J _ _ (by rw[Z0a];exact Y01 _),Z0a,Y0v]
 rfl
theorem ZhR{L X R:Z00}{o:AObj}{d b:Nat}(hL:L.length=d)(hb:b<X.length):(L++(shA d X++R)).set (b+d) (shO d o)=L++(shA d (X.set b o)++R):=by
 subst hL
 rw[Y0J _ _ (by omega),Y0L,List.set_append_left _ _ (by rw[Z0a];exact hb)]
 unfold shA
 rw[List.map_set]
theorem Z5C:∀(cs:List AV)(f:Nat->Nat)(p:Nat)(v:Int),p<cs.length->spl (renL f cs) p [.int .i64 v]=some (renL f (cs.set p (.int .i64 v)))
 |[],f,p,v,h=>by simp at h
 |c::cs,f,0,v,h=>by simp only[renL,List.set_cons_zero,ren,spl]
 |c::cs,f,p+1,v,h=>by
  have:=Z5C cs f p v (by simpa using h)
  simp only[renL,Y0N,spl,this]
theorem Z3N(a b c:AObj)(X R:Z00):(a::b::c::(shA 3 X++R)).length=X.length+3+R.length:=by simp only[Y04,Y0a,Z0a];omega
theorem Zfa(a b c:AObj)(X:Z00):(a::b::c::shA 3 X).length=X.length+3:=by simp only[Y04,Z0a]
theorem Zmo(a b c:AObj)(X:Z00)(cs:List AV)(ty:TypeId){n:Nat}(hn:X.length+3=n):Z14 (a::b::c::shA 3 X) cs ty=a::b::c::(shA 3 X++[⟨true,n,0,.cells cs ty⟩]):=by
 subst hn
 unfold Z14
 rw[Zfa]
 rfl
theorem Zki(a b c e:AObj)(X:Z00)(cs:List AV)(ty:TypeId){n:Nat}(hn:X.length+4=n):Z14 (a::b::c::(shA 3 X++[e])) cs ty=a::b::c::(shA 3 X++[e,⟨true,n,0,.cells cs ty⟩]):=by
 subst hn
 unfold Z14
 rw[Z3N]
 simp
theorem Zjm{a b c e f:AObj}{X:Z00}(hX:ClT X.length 0 X)(ha:a.fam=0)(hb:b.fam=1)(hc:c.fam=2)(he:e.fam=X.length+3)(hf:f.fam=X.length+4):Own 0 (a::b::c::(shA 3 X++[e,f])) :=
 Own.cons ha (Own.cons hb (Own.cons hc ((Own.tl hX).app (e:=X.length+3) (Own.cons he (Own.cons hf Own.nil)) (by rw[Z0a];omega))))
theorem Zmp{a b c e:AObj}{X R:Z00}{n:Nat}(hn:X.length+3=n):(a::b::c::(shA 3 X++(e::R)))[n]? = some e:=ZjY (L:=[a,b,c]) rfl hn.symm
theorem Zjn{a b c e f:AObj}{X R:Z00}{n:Nat}(hn:X.length+4=n):(a::b::c::(shA 3 X++(e::f::R)))[n]? = some f:=by
 have h:(a::b::c::(shA 3 X++(e::f::R)))=(a::b::c::(shA 3 X++[e]))++(f::R):=by simp
 rw[h,Y08 (by rw[Z3N];simp;omega),Z3N]
 have:n-(X.length+3+[e].length)=0:=by simp;omega
 rw[this];rfl
theorem Zmn{a b c e e' f:AObj}{X:Z00}{n:Nat}(hX:ClT X.length 0 X)(hn:X.length+3=n)(ha:a.fam=0)(hb:b.fam=1)(hc:c.fam=2)(he:e.fam=n)(hf:f.fam=X.length+4):(Z30 n n (a::b::c::(shA 3 X++[e,f]))).set n e'=a::b::c::(shA 3 X++[e',f]):=by
 rw[(Zjm hX ha hb hc (he.trans hn.symm) hf).wk]
 exact ZjX (L:=[a,b,c]) rfl hn.symm
theorem Zkh{a b c e f f':AObj}{X:Z00}{n:Nat}(hX:ClT X.length 0 X)(hn:X.length+4=n)(ha:a.fam=0)(hb:b.fam=1)(hc:c.fam=2)(he:e.fam=X.length+3)(hf:f.fam=n):(Z30 n n (a::b::c::(shA 3 X++[e,f]))).set n f'=a::b::c::(shA 3 X++[e,f']):=by
 rw[(Zjm hX ha hb hc he (hf.trans hn.symm)).wk]
 have h:∀g,(a::b::c::(shA 3 X++[e,g]))=(a::b::c::(shA 3 X++[e]))++[g]:=λg=>by simp
 rw[h,h,Y0J _ _ (by rw[Z3N];simp;omega),Z3N]
 have:n-(X.length+3+[e].length)=0:=by simp;omega
 rw[this];rfl
theorem lt3{n a b c:Nat}(h1:a<n)(h2:b<n)(h3:c<n):Z0e n [a,b,c]=true:=by simp[Z0e,Nat.blt];omega
end
section
def mF(pc dc C:List AV)(d t:Nat)(X R:Z00):Z00:=⟨true,0,0,.cells pc 25⟩::⟨true,1,0,.cells [.slice 3 0 d d 3,.slice 4 0 t t 1] 25⟩::⟨true,2,0,.cells pc 25⟩::⟨true,3,0,.cells dc 53⟩::⟨true,4,0,.cells (renL (· + 5) C) 28⟩::(shA 5 X++R)
theorem Z9S{H:Z00}{n:Nat}{o:AObj}(h:H[n]? = some o):Z1b H n=o.fam:=by unfold Z1b;rw[h]
theorem ZmE {t0 tm : Tr} {ls : List (Nat × AV)} {X : Z00} {pc dc C : List AV} {d t n1 n2 : Nat} (hX : ClT X.length 0 X) (hC : Z0e X.length (refsL C []) = true) (hp : refsL pc [] = []) (hd : refsL dc [] = []) (h1 : X.length + 3 = n1) (h2 : X.length + 4 = n2) (h : ZbI t0 tm = true) (hs : SlotsGe ([0, n1, n2, 1, 2] ++ List.range' 3 X.length) tm ls) :
  FgL t0 tm (⟨true,0,0,.cells pc 25⟩::⟨true,1,0,.cells dc 53⟩::⟨true,2,0,.cells (renL (· + 3) C) 28⟩::(shA 3 X++[⟨true,n1,0,.cells [.slice 1 0 d d 3,.slice 2 0 t t 1] 25⟩,⟨true,n2,0,.cells pc 25⟩])) ls (mF pc dc C d t X []):=by
 have hH:∀i o,X[i]? = some o->((⟨true,0,0,.cells pc 25⟩:AObj)::⟨true,1,0,.cells dc 53⟩::⟨true,2,0,.cells (renL (· + 3) C) 28⟩::(shA 3 X++[⟨true,n1,0,.cells [.slice 1 0 d d 3,.slice 2 0 t t 1] 25⟩,⟨true,n2,0,.cells pc 25⟩]))[3+i]? = some (shO 3 o):=λi o hi=>Z70 (L:=[_,_,_]) rfl i o hi
 have g1:=Zmp (a:=⟨true,0,0,.cells pc 25⟩) (b:=⟨true,1,0,.cells dc 53⟩) (c:=⟨true,2,0,.cells (renL (· + 3) C) 28⟩) (e:=⟨true,n1,0,.cells [.slice 1 0 d d 3,.slice 2 0 t t 1] 25⟩) (X:=X) (R:=[⟨true,n2,0,.cells pc 25⟩]) h1
 have g2:=Zjn (a:=⟨true,0,0,.cells pc 25⟩) (b:=⟨true,1,0,.cells dc 53⟩) (c:=⟨true,2,0,.cells (renL (· + 3) C) 28⟩) (e:=⟨true,n1,0,.cells [.slice 1 0 d d 3,.slice 2 0 t t 1] 25⟩) (f:=⟨true,n2,0,.cells pc 25⟩) (X:=X) (R:=[]) h2
 have hmt:∀i,i<X.length->([0,n1,n2,1,2]++List.range' 3 X.length)[5+i]? = some (3+i):=λi hi=>ZaP (ml:=[0,n1,n2,1,2]) rfl i hi
 have hpc:∀m,BodyGe m (.cells pc 25) (.cells pc 25):=λm=>Y05 (rest:=[]) (by simp) hp
 have hdc:∀m,BodyGe m (.cells dc 53) (.cells dc 53):=λm=>Y05 (rest:=[]) (by simp) hd
 refine Y0k ([0,n1,n2,1,2]++List.range' 3 X.length) h hs ?_ ?_
 · unfold mF
   rw[Y0m]
   show HpGe _ _ ([0,n1,n2,1,2]++List.range' 3 X.length) ([_,_,_,_,_]++shA 5 X) 0
   refine HpGe.app ⟨⟨rfl,rfl,rfl,rfl,hpc _⟩,Zak g1 ⟨rfl,rfl,rfl,rfl,?_⟩,Zak g2 ⟨rfl,rfl,rfl,rfl,hpc _⟩,⟨rfl,rfl,rfl,rfl,hdc _⟩,⟨rfl,rfl,rfl,rfl,BodyGe.mv hC hmt⟩,trivial⟩ (Z5P hX hH hmt)
   exact Y0c ⟨Y03 rfl rfl rfl (Y01 _) (Y01 _) rfl,Y03 rfl rfl rfl (Y01 _) (Y01 _) rfl,trivial⟩
 · have e1:=Z9S g1
   have e2:=Z9S g2
   simp only at e1 e2
   have e:([0,n1,n2,1,2]:List Nat).map (Z1b ((⟨true,0,0,.cells pc 25⟩:AObj)::⟨true,1,0,.cells dc 53⟩::⟨true,2,0,.cells (renL (· + 3) C) 28⟩::(shA 3 X++[⟨true,n1,0,.cells [.slice 1 0 d d 3,.slice 2 0 t t 1] 25⟩,⟨true,n2,0,.cells pc 25⟩])))=[0,n1,n2,1,2]:=by
    simp only[Y0r,List.map_nil,e1,e2]
    rfl
   refine Z6N hX hH ?_ ?_
   · rw[e]
     have a1:∀a b:Nat,a≠b->Nat.beq a b=false:=λa b h=>by
      cases hb:Nat.beq a b with
      |false=>rfl
      |true=>exact absurd (Y12 hb) h
     have a2:∀(a:Nat)(l:List Nat),a ∉ l->mem a l=false:=λa l h=>by
      cases hb:mem a l with
      |false=>rfl
      |true=>exact absurd (mem_iff.1 hb) h
     simp only[Z0H,Y0B,Y0H]
     refine⟨a2 _ _ ?_,a2 _ _ ?_,a2 _ _ ?_,a2 _ _ ?_,a2 _ _ ?_,trivial⟩<;>simp<;>omega
   · rw[e]
     intro f hf
     simp only[Y0C,Y13,or_false]at hf
     omega
theorem ZfM(pc dc C:List AV)(d t:Nat)(X:Z00):(mF pc dc C d t X []).length=X.length+5:=by unfold mF;simp only[Y04,Y0a,Z0a,Y0D,Y0I]
theorem ZkQ{pc dc C:List AV}{d t:Nat}{X:Z00}(hX:ClT X.length 0 X)(hC:Z0e X.length (refsL C [])=true)(hp:refsL pc []=[])(hd:refsL dc []=[]):ClT (mF pc dc C d t X []).length 0 (mF pc dc C d t X []):=by
 rw[ZfM]
 have h34:Z0e (X.length+5) [3,4]=true:=by simp[Z0e,Nat.blt]
 refine ClT.cons ⟨rfl,rfl,rfl,_,_,rfl,by rw[hp];rfl⟩ (ClT.cons ⟨rfl,rfl,rfl,_,_,rfl,h34⟩ (ClT.cons ⟨rfl,rfl,rfl,_,_,rfl,by rw[hp];rfl⟩ (ClT.cons ⟨rfl,rfl,rfl,_,_,rfl,by rw[hd];rfl⟩ (ClT.cons ⟨rfl,rfl,rfl,_,_,rfl,Z17 hC⟩ ?_))))
 rw[Y0m]
 have:=hX.sh (d:=5)
 simpa using this
theorem Zfl:∀(cs:List AV)(k:Nat)(v:AV),k<cs.length->spl cs k [v]=some (cs.set k v)
 |[],k,v,h=>by simp at h
 |c::cs,0,v,h=>by simp only[List.set_cons_zero,spl]
 |c::cs,k+1,v,h=>by
  have:=Zfl cs k v (by simpa using h)
  simp only[Y0N,spl,this]
theorem ZiI{cs:List AV}(h:cs.all Z6C=true)(k:Nat)(v:Int):(cs.set k (.int .i64 v)).all Z6C=true:=by
 rw[List.all_eq_true]at h⊢
 intro x hx
 rcases List.mem_or_eq_of_mem_set hx with h1|h1
 ·exact h x h1
 ·subst h1;rfl
theorem ZkP{pc dc dc' C:List AV}{d t:Nat}{X:Z00}(hX:ClT X.length 0 X)(hC:Z0e X.length (refsL C [])=true)(hp:refsL pc []=[])(hd:refsL dc []=[]):(Z30 3 3 (mF pc dc C d t X [])).set 3 ⟨true,3,0,.cells dc' 53⟩=mF pc dc' C d t X []:=by
 rw[Zmk (ZkQ hX hC hp hd)]
 rfl
def GX(ts:List (List St))(C:List AV)(X:Z00):Prop:=ClT X.length 0 X/\Z0e X.length (refsL C [])=true/\∀(t:Nat)(h:t<ts.length),C[t]? = some (.slice (tlT ts t).length 0 ts[t].length ts[t].length 7)/\BlkS X (tlT ts t).length ts[t]
theorem GX.wr{ts:List (List St)}{C:List AV}{X X':Z00}(h:GX ts C X)(w:Wr X X'):GX ts C X':=by
 obtain⟨h1,h2,h3⟩:=h
 refine⟨?_,?_,λt ht=>⟨(h3 t ht).1,w.s (h3 t ht).2⟩⟩
 · have:=w.cl h1
   rwa [<- w.len]at this
 ·rw[w.len];exact h2
theorem Zf7:∀(vs cs:List AV)(k:Nat),(∀j v,vs[j]? = some v->cs[k+j]? = some v)->tk vs.length (cs.drop k)=some vs
 |[],cs,k,h=>by cases cs.drop k<;>rfl
 |v::vs,cs,k,h=>by
  have h0:=h 0 v rfl
  rw[Y0I]at h0
  obtain⟨hk,hv⟩:=Y0e.1 h0
  have ih:=Zf7 vs cs (k+1) λj u hu=>by
   have:=h (j+1) u (by simpa using hu)
   rwa [show k+(j+1)=k+1+j from by omega]at this
  rw[List.drop_eq_getElem_cons hk,hv]
  simp only[Y04,tk,ih]
theorem Z8q{cs:List AV}{k:Nat}{u:AV}(h:cs[k]? = some u):tk 1 (cs.drop k)=some [u] :=
 Zf7 [u] cs k λj v hv=>by
  match j,hv with
  |0,hv=>cases hv;exact h
def stv(k o:Int)(n l:List UInt8)(a b c:Nat)(x:List Ex)(th el:List St):List AV:=[.int .i64 k,.str n,.str l,.int .i64 o,.slice a 0 x.length x.length 4,.slice b 0 th.length th.length 7,.slice c 0 el.length el.length 7]
theorem BlkS.read{X:Z00}{b:Nat}{l:List St}(h:BlkS X b l)(i:Nat)(hi:i<l.length):∃cs,Bk X b 30 (l.length*7) cs/\∃k o a b c,tk 7 (cs.drop (i*7))=some (stv k o l[i].name l[i].loc a b c (sX l[i]) (sT l[i]) (sE l[i]))/\Zji X a (sX l[i])/\BlkI X b 7 (sT l[i]).length 30/\BlkI X c 7 (sE l[i]).length 30/\CI cs (i*7):=by
 obtain⟨cs,hb,hs⟩:=h
 obtain⟨⟨k,hk⟩,hn,hl,⟨o,ho⟩,⟨a,ha,hxa⟩,⟨b',hb',hxb⟩,⟨c,hc,hxc⟩⟩:=hs i hi
 refine⟨cs,hb,k,o,a,b',c,?_,hxa,hxb,hxc,⟨k,hk⟩⟩
 refine Zf7 (stv k o l[i].name l[i].loc a b' c (sX l[i]) (sT l[i]) (sE l[i])) cs (i*7) λj v hv=>?_
 match j,hv with
 |0,hv=>cases hv;exact hk
 |1,hv=>cases hv;exact hn
 |2,hv=>cases hv;exact hl
 |3,hv=>cases hv;exact ho
 |4,hv=>cases hv;exact ha
 |5,hv=>cases hv;exact hb'
 |6,hv=>cases hv;exact hc
theorem Zjl(f:Nat->Nat):∀(n:Nat)(cs r:List AV),tk n cs=some r->tk n (renL f cs)=some (renL f r)
 |0,cs,r,h=>by simp only[tk,Option.some.injEq]at h;subst h;cases cs<;>rfl
 |n+1,[],r,h=>by simp[tk]at h
 |n+1,c::cs,r,h=>by
  simp only[tk]at h
  split at h
  · rename_i r' hr
    cases h
    simp only[renL,tk,Zjl f n cs r' hr]
  ·cases h
theorem ZaC(f:Nat->Nat):∀(k:Nat)(cs:List AV),renL f (cs.drop k)=(renL f cs).drop k
 |0,cs=>rfl
 |k+1,[]=>rfl
 |k+1,c::cs=>by simp only[List.drop_succ_cons,renL,ZaC f k cs]
theorem ZmA{pc dc C:List AV}{d t:Nat}{X:Z00}(cs:List AV)(ty:TypeId){n:Nat}(hn:X.length+5=n):Z14 (mF pc dc C d t X []) cs ty=mF pc dc C d t X [⟨true,n,0,.cells cs ty⟩]:=by
 subst hn
 unfold Z14
 rw[ZfM]
 unfold mF
 simp
theorem ZmB{pc dc C:List AV}{d t:Nat}{X:Z00}{e:AObj}{R:Z00}{n:Nat}(hn:X.length+5=n):(mF pc dc C d t X (e::R))[n]? = some e:=ZjY (L:=[_,_,_,_,_]) rfl hn.symm
theorem Zmz{pc dc C:List AV}{d t:Nat}{X:Z00}{e:AObj}(hX:ClT X.length 0 X)(he:e.fam=X.length+5):Own 0 (mF pc dc C d t X [e]) :=
 Own.cons rfl (Own.cons rfl (Own.cons rfl (Own.cons rfl (Own.cons rfl ((Own.tl hX).app (e:=X.length+5) (Own.cons he Own.nil) (by rw[Z0a];omega))))))
theorem ZkO{pc dc C:List AV}{d t:Nat}{X:Z00}{e e':AObj}{n:Nat}(hX:ClT X.length 0 X)(hn:X.length+5=n)(he:e.fam=n):(Z30 n n (mF pc dc C d t X [e])).set n e'=mF pc dc C d t X [e']:=by
 rw[(Zmz hX (he.trans hn.symm)).wk]
 exact ZjX (L:=[_,_,_,_,_]) rfl hn.symm
theorem ZnP{pc dc C cs:List AV}{d t:Nat}{X R:Z00}{b n:Nat}{ty:TypeId}(h:X[b]? = some ⟨true,b,0,.cells cs ty⟩)(hn:b+5=n):(mF pc dc C d t X R)[n]? = some ⟨true,n,0,.cells (renL (· + 5) cs) ty⟩:=by
 have:=Z70 (L:=[⟨true,0,0,.cells pc 25⟩,⟨true,1,0,.cells [.slice 3 0 d d 3,.slice 4 0 t t 1] 25⟩,⟨true,2,0,.cells pc 25⟩,⟨true,3,0,.cells dc 53⟩,⟨true,4,0,.cells (renL (· + 5) C) 28⟩]) (R:=R) (d:=5) rfl b _ h
 rw[<- hn,Y0o b 5]
 rw[Y0o 5 b]at this⊢
 exact this
end
section
def mG(pc dc C sc:List AV)(d t:Nat)(X:Z00):Z00:=⟨true,0,0,.cells pc 25⟩::⟨true,1,0,.cells [.slice 3 0 d d 3,.slice 4 0 t t 1] 25⟩::⟨true,2,0,.cells pc 25⟩::⟨true,3,0,.cells dc 53⟩::⟨true,4,0,.cells (renL (· + 6) C) 28⟩::⟨true,5,0,.cells (renL (· + 6) sc) 30⟩::shA 6 X
theorem Zmy(pc dc C sc:List AV)(d t:Nat)(X:Z00):(mG pc dc C sc d t X).length=X.length+6:=by unfold mG;simp only[Y04,Z0a]
theorem ZnO{pc dc C sc:List AV}{d t:Nat}{X:Z00}(hX:ClT X.length 0 X)(hC:Z0e X.length (refsL C [])=true)(hp:refsL pc []=[])(hd:refsL dc []=[])(hsc:Z0e X.length (refsL sc [])=true):ClT (mG pc dc C sc d t X).length 0 (mG pc dc C sc d t X):=by
 rw[Zmy]
 have h34:Z0e (X.length+6) [3,4]=true:=by simp[Z0e,Nat.blt]
 refine ClT.cons ⟨rfl,rfl,rfl,_,_,rfl,by rw[hp];rfl⟩ (ClT.cons ⟨rfl,rfl,rfl,_,_,rfl,h34⟩ (ClT.cons ⟨rfl,rfl,rfl,_,_,rfl,by rw[hp];rfl⟩ (ClT.cons ⟨rfl,rfl,rfl,_,_,rfl,by rw[hd];rfl⟩ (ClT.cons ⟨rfl,rfl,rfl,_,_,rfl,Z17 hC⟩ (ClT.cons ⟨rfl,rfl,rfl,_,_,rfl,Z17 hsc⟩ ?_)))))
 have:=hX.sh (d:=6)
 simpa using this
theorem ZkY {t0 tm : Tr} {ls : List (Nat × AV)} {X : Z00} {pc dc C sc : List AV} {d t n : Nat} (hX : ClT X.length 0 X) (hC : Z0e X.length (refsL C []) = true) (hp : refsL pc [] = []) (hd : refsL dc [] = []) (hsc : Z0e X.length (refsL sc []) = true) (hn : X.length + 5 = n) (h : ZbI t0 tm = true) (hs : SlotsGe ([0, 1, 2, 3, 4, n] ++ List.range' 5 X.length) tm ls) :
  FgL t0 tm (mF pc dc C d t X [⟨true,n,0,.cells (renL (· + 5) sc) 30⟩]) ls (mG pc dc C sc d t X):=by
 have hH:∀i o,X[i]? = some o->(mF pc dc C d t X [⟨true,n,0,.cells (renL (· + 5) sc) 30⟩])[5+i]? = some (shO 5 o):=λi o hi=>Z70 (L:=[_,_,_,_,_]) rfl i o hi
 have g1:=ZmB (pc:=pc) (dc:=dc) (C:=C) (d:=d) (t:=t) (X:=X) (e:=⟨true,n,0,.cells (renL (· + 5) sc) 30⟩) (R:=[]) hn
 have hmt:∀i,i<X.length->([0,1,2,3,4,n]++List.range' 5 X.length)[6+i]? = some (5+i):=λi hi=>ZaP (ml:=[0,1,2,3,4,n]) rfl i hi
 have hpc:∀m,BodyGe m (.cells pc 25) (.cells pc 25):=λm=>Y05 (rest:=[]) (by simp) hp
 have hdc:∀m,BodyGe m (.cells dc 53) (.cells dc 53):=λm=>Y05 (rest:=[]) (by simp) hd
 refine Y0k ([0,1,2,3,4,n]++List.range' 5 X.length) h hs ?_ ?_
 · show HpGe _ _ ([0,1,2,3,4,n]++List.range' 5 X.length) ([_,_,_,_,_,_]++shA 6 X) 0
   refine HpGe.app ⟨⟨rfl,rfl,rfl,rfl,hpc _⟩,⟨rfl,rfl,rfl,rfl,?_⟩,⟨rfl,rfl,rfl,rfl,hpc _⟩,⟨rfl,rfl,rfl,rfl,hdc _⟩,⟨rfl,rfl,rfl,rfl,BodyGe.mv hC hmt⟩,Zak g1 ⟨rfl,rfl,rfl,rfl,BodyGe.mv hsc hmt⟩,trivial⟩ (Z5P hX hH hmt)
   exact Y0c ⟨Y03 rfl rfl rfl (Y01 _) (Y01 _) rfl,Y03 rfl rfl rfl (Y01 _) (Y01 _) rfl,trivial⟩
 · have e1:=Z9S g1
   simp only at e1
   have e:([0,1,2,3,4,n]:List Nat).map (Z1b (mF pc dc C d t X [⟨true,n,0,.cells (renL (· + 5) sc) 30⟩]))=[0,1,2,3,4,n]:=by
    simp only[Y0r,List.map_nil,e1]
    rfl
   refine Z6N hX hH ?_ ?_
   · rw[e]
     have a2:∀(a:Nat)(l:List Nat),a ∉ l->mem a l=false:=λa l h=>by
      cases hb:mem a l with
      |false=>rfl
      |true=>exact absurd (mem_iff.1 hb) h
     simp only[Z0H,Y0B,Y0H]
     refine⟨a2 _ _ ?_,a2 _ _ ?_,a2 _ _ ?_,a2 _ _ ?_,a2 _ _ ?_,a2 _ _ ?_,trivial⟩<;>simp<;>omega
   · rw[e]
     intro f hf
     simp only[Y0C,Y13,or_false]at hf
     omega
theorem Zel{pc dc C sc cs:List AV}{d t:Nat}{X:Z00}{b q:Nat}{ty:TypeId}(h:X[b]? = some ⟨true,b,0,.cells cs ty⟩)(hq:b+6=q):(mG pc dc C sc d t X)[q]? = some ⟨true,q,0,.cells (renL (· + 6) cs) ty⟩:=by
 have:=Z84 (L:=[⟨true,0,0,.cells pc 25⟩,⟨true,1,0,.cells [.slice 3 0 d d 3,.slice 4 0 t t 1] 25⟩,⟨true,2,0,.cells pc 25⟩,⟨true,3,0,.cells dc 53⟩,⟨true,4,0,.cells (renL (· + 6) C) 28⟩,⟨true,5,0,.cells (renL (· + 6) sc) 30⟩]) (d:=6) rfl b _ h
 rw[<- hq]
 rw[Y0o 6 b]at this
 exact this
theorem ZaQ{pc dc C sc cs cs':List AV}{d t:Nat}{X:Z00}{b q:Nat}{ty:TypeId}(hX:ClT X.length 0 X)(h:X[b]? = some ⟨true,b,0,.cells cs ty⟩)(hq:b+6=q):(Z30 q q (mG pc dc C sc d t X)).set q ⟨true,q,0,.cells (renL (· + 6) cs') ty⟩=mG pc dc C sc d t (X.set b ⟨true,b,0,.cells cs' ty⟩):=by
 have ho:Own 0 (mG pc dc C sc d t X):=Own.cons rfl (Own.cons rfl (Own.cons rfl (Own.cons rfl (Own.cons rfl (Own.cons rfl (Own.tl hX))))))
 rw[ho.wk,<- hq]
 have:=ZhR (L:=[⟨true,0,0,.cells pc 25⟩,⟨true,1,0,.cells [.slice 3 0 d d 3,.slice 4 0 t t 1] 25⟩,⟨true,2,0,.cells pc 25⟩,⟨true,3,0,.cells dc 53⟩,⟨true,4,0,.cells (renL (· + 6) C) 28⟩,⟨true,5,0,.cells (renL (· + 6) sc) 30⟩]) (X:=X) (R:=[]) (o:=⟨true,b,0,.cells cs' ty⟩) (d:=6) (b:=b) rfl (Y0e.1 h).1
 simpa[mG,shO,Zaj]using this
def GS(ts:List (List St))(C:List AV)(x:St)(xa xb xc:Nat)(X:Z00):Prop:=GX ts C X/\Zji X xa (sX x)/\BlkI X xb 7 (sT x).length 30/\BlkI X xc 7 (sE x).length 30
theorem GS.wr{ts:List (List St)}{C:List AV}{x:St}{xa xb xc:Nat}{X X':Z00}(h:GS ts C x xa xb xc X)(w:Wr X X'):GS ts C x xa xb xc X':=⟨h.1.wr w,w.x h.2.1,w.i h.2.2.1,w.i h.2.2.2⟩
theorem GS.refs{ts:List (List St)}{C:List AV}{x:St}{xa xb xc:Nat}{X:Z00}(h:GS ts C x xa xb xc X)(k o:Int)(n l:List UInt8):Z0e X.length (refsL (stv k o n l xa xb xc (sX x) (sT x) (sE x)) [])=true:=by
 obtain⟨_,⟨_,h1,_⟩,⟨_,h2,_⟩,⟨_,h3,_⟩⟩:=h
 exact lt3 (Y0e.1 h1.1).1 (Y0e.1 h2.1).1 (Y0e.1 h3.1).1
theorem BlkI.wr{X:Z00}{b z n:Nat}{ty:TypeId}{cs:List AV}(hk:Bk X b ty (n*z) cs)(hc:∀i,i<n->CI cs (i*z))(i:Nat)(hi:i<n)(v:Int):Wr X (X.set b ⟨true,b,0,.cells (cs.set (i*z) (.int .i64 v)) ty⟩):=by
 obtain⟨u,hu⟩:=hc i hi
 exact⟨b,cs,ty,i*z,u,v,hk.1,hu,rfl⟩
def KX(xa k kk n len:Nat)(X:Z00):Prop:=∃ce,Bk X xa 36 (len*4) ce/\CI ce (k*4)/\ce[k*4+3]? = some (.slice kk 0 n n 4)/\BlkI X kk 4 n 36
theorem KX.wr{xa k kk n len:Nat}{X X':Z00}(h:KX xa k kk n len X)(w:Wr X X'):KX xa k kk n len X':=by
 obtain⟨ce,h1,h2,h3,h4⟩:=h
 obtain⟨ce',h5,h6⟩:=w.at h1
 exact⟨ce',h5,h6.ci h2,h6.sl h3,w.i h4⟩
theorem Zf6{cs:List AV}{p q:Nat}{a l c e f:Nat}(h:cs[p]? = some (.slice a l c e f))(hq:q=p):tk 1 ((renL (· + 6) cs).drop q)=some [.slice (a+6) l c e f]:=by
 subst hq
 exact Z8q (by rw[Z0p,h];rfl)
theorem Zl0:∀e:Ex,e.kids.length<=Z1v e
 | .mk o n s k=>by have:=Z3S k;simp only[Z1v,Ex.kids];omega
theorem Zio{ts:List (List St)}(h:Z0j ts<=3000){t i:Nat}(ht:t<ts.length)(hi:i<ts[t].length):(sX ts[t][i]).length<=3000/\(sT ts[t][i]).length<=3000/\(sE ts[t][i]).length<=3000/\∀k (hk:k<(sX ts[t][i]).length),(sX ts[t][i])[k].kids.length<=3000:=by
 have h1:=Z34 _ _ (Z0c ht)
 have h2:=Z19 _ _ (Z0c hi)
 generalize ts[t][i]=x at *
 obtain⟨kd,nm,lc,o,x,th,el⟩:=x
 simp only[Z1U]at h2
 simp only[sX,sT,sE]
 have h3:=Z3S x
 have h4:=Z4h th
 have h5:=Z4h el
 refine⟨by omega,by omega,by omega,λk hk=>?_⟩
 have h6:=Z1u _ _ (Z0c hk)
 have h7:=Zl0 x[k]
 omega
theorem ZkX{ts:List (List St)}(h:Z0j ts<=3000){t:Nat}(ht:t<ts.length):ts[t].length<=3000:=by
 have h1:=Z34 _ _ (Z0c ht)
 have h2:=Z4h ts[t]
 omega
theorem ZkW {t0 tm : Tr} {ls : List (Nat × AV)} {X : Z00} {pc dc C sc : List AV} {d t : Nat} (hX : ClT X.length 0 X) (hC : Z0e X.length (refsL C []) = true) (hp : refsL pc [] = []) (hd : refsL dc [] = []) (h : ZbI t0 tm = true) (hs : SlotsGe ([0, 1, 2, 3, 4] ++ List.range' 6 X.length) tm ls) :
  FgL t0 tm (mG pc dc C sc d t X) ls (mF pc dc C d t X []):=by
 have hH:∀i o,X[i]? = some o->(mG pc dc C sc d t X)[6+i]? = some (shO 6 o):=λi o hi=>Z84 (L:=[_,_,_,_,_,_]) rfl i o hi
 have hmt:∀i,i<X.length->([0,1,2,3,4]++List.range' 6 X.length)[5+i]? = some (6+i):=λi hi=>ZaP (ml:=[0,1,2,3,4]) rfl i hi
 have hpc:∀m,BodyGe m (.cells pc 25) (.cells pc 25):=λm=>Y05 (rest:=[]) (by simp) hp
 have hdc:∀m,BodyGe m (.cells dc 53) (.cells dc 53):=λm=>Y05 (rest:=[]) (by simp) hd
 refine Y0k ([0,1,2,3,4]++List.range' 6 X.length) h hs ?_ ?_
 · unfold mF
   rw[Y0m]
   show HpGe _ _ ([0,1,2,3,4]++List.range' 6 X.length) ([_,_,_,_,_]++shA 5 X) 0
   refine HpGe.app ⟨⟨rfl,rfl,rfl,rfl,hpc _⟩,⟨rfl,rfl,rfl,rfl,?_⟩,⟨rfl,rfl,rfl,rfl,hpc _⟩,⟨rfl,rfl,rfl,rfl,hdc _⟩,⟨rfl,rfl,rfl,rfl,BodyGe.mv hC hmt⟩,trivial⟩ (Z5P hX hH hmt)
   exact Y0c ⟨Y03 rfl rfl rfl (Y01 _) (Y01 _) rfl,Y03 rfl rfl rfl (Y01 _) (Y01 _) rfl,trivial⟩
 · have e:([0,1,2,3,4]:List Nat).map (Z1b (mG pc dc C sc d t X))=[0,1,2,3,4]:=rfl
   refine Z6N hX hH ?_ ?_
   ·rw[e];rfl
   · rw[e]
     intro f hf
     simp only[Y0C,Y13,or_false]at hf
     omega
end
end Go.Proofs.YtajhailaofchlaaDoor.lex
section
namespace Go.Proofs.YtajhailaofchlaaDoor.runLives
open Go.RowKit Go.Abs
def Zok:List AV:=[.bool false,.bool false,.int .i64 (.ofNat 0),.bool true,.bool false,.int .i64 (.ofNat 0),.bool false,.bool true,.int .i64 (.ofNat 0),
 .bool false,.bool false,.int .i64 (.ofNat 1),.bool false,.bool false,.int .i64 (.ofNat 1),.bool false,.bool false,.int .i64 (.ofNat 2),
 .bool false,.bool false,.int .i64 (.ofNat 2),.bool false,.bool false,.int .i64 (.ofNat 2),.bool false,.bool false,.int .i64 (.ofNat 2),
 .bool false,.bool false,.int .i64 (.ofNat 2),.bool false,.bool false,.int .i64 (.ofNat 2),.bool false,.bool false,.int .i64 (.ofNat 2),
 .bool false,.bool false,.int .i64 (.ofNat 2),.bool false,.bool false,.int .i64 (.ofNat 2),.bool false,.bool false,.int .i64 (.ofNat 2),
 .bool false,.bool false,.int .i64 (.ofNat 2),.bool false,.bool false,.int .i64 (.ofNat 2)]
def Zoj:List AV:=[.bool false,.bool false,.bool false,.int .i64 (.ofNat 0),.bool false,.bool false,.bool true,.bool false,.bool false,.int .i64 (.ofNat 1),
 .bool false,.bool false,.bool true,.bool true,.bool true,.int .i64 (.ofNat 0),.bool false,.bool false,.bool false,.bool true,.bool true,
 .int .i64 (.ofNat 1),.bool false,.bool false,.bool true,.bool true,.bool true,.int .i64 (.ofNat 2),.bool false,.bool false,.bool true,
 .bool true,.bool true,.int .i64 (.ofNat 1),.bool false,.bool false,.bool true,.bool true,.bool true,.int .i64 (.ofNat 1),.bool false,
 .bool false,.bool false,.bool false,.bool true,.int .i64 (.ofNat 0),.bool false,.bool false,.bool false,.bool false,.bool false,
 .int .i64 (.ofNat 1),.bool false,.bool false,.bool false,.bool false,.bool false,.int .i64 (.ofNat 1),.bool false,.bool false,.bool false,
 .bool false,.bool false,.int .i64 (.ofNat 1),.bool true,.bool true,.bool false,.bool false,.bool false,.int .i64 (.ofNat 1),.bool true,
 .bool false]
def gl:Glob:=λg=>if Nat.beq g 0 then some Zok else if Nat.beq g 1 then some Zoj else none
theorem follows:Y00.follows .mixedOrders=true:=by kernel_rfl
theorem Z9H:(Y00.funcs.toList.all λfn=>!(fn.name == "runtime.NumGoroutine"))=true:=by kernel_rfl
theorem Z0x:NoNum Y00:=⟨λg fn h=>by
 have h1:=List.all_eq_true.1 Z9H fn (Array.mem_toList_iff.2 (Array.mem_of_getElem? h))
 simpa using h1,of_decide_eq_true (by kernel_rfl)⟩
theorem n0:Y00.globalNamed "cantilever/ast.shapes" = some 0:=by kernel_rfl
theorem ty0:(Y00.globals[0]?).map (·.type)=some 92:=by kernel_rfl
theorem av0:ZjZ Y00 6 92 (Rows.laid_cantilever_ast_shapes (H:=Unit))=some Zok:=by kernel_rfl
theorem n1:Y00.globalNamed "cantilever/ast.forms" = some 1:=by kernel_rfl
theorem ty1:(Y00.globals[1]?).map (·.type)=some 95:=by kernel_rfl
theorem av1:ZjZ Y00 6 95 (Rows.laid_cantilever_ast_forms (H:=Unit))=some Zoj:=by kernel_rfl
theorem globs{W:World}(h:laidMetH Y00 [("cantilever/ast.shapes", Rows.laid_cantilever_ast_shapes), ("cantilever/ast.forms", Rows.laid_cantilever_ast_forms)] W):GlOK gl (Z2j W):=by
 have h':laidMet Y00 [("cantilever/ast.shapes", Rows.laid_cantilever_ast_shapes), ("cantilever/ast.forms", Rows.laid_cantilever_ast_forms)] W:=h
 obtain⟨_,hv,_⟩:=id h'
 obtain⟨m0,_⟩:=ZaV n0 ty0 av0 hv
 have h':=laidMet.tail h'
 obtain⟨_,hv,_⟩:=id h'
 obtain⟨m1,_⟩:=ZaV n1 ty1 av1 hv
 intro g cs hg
 unfold gl at hg
 split at hg
 ·rename_i e;have:=Y12 e;subst this;simp at hg;subst hg;exact m0
 split at hg
 ·rename_i e;have:=Y12 e;subst this;simp at hg;subst hg;exact m1
 cases hg
end Go.Proofs.YtajhailaofchlaaDoor.runLives
end
namespace Go.Proofs.YtajhailaofchlaaDoor.lex
open Go.Abs Go.RowKit
section
def ZfS(f:Nat)(xs:List AV):Option AV:=match f with
 |37=>match xs with|[.str s,.bool m]=>if s.length<=9223372036854775807 then some (.bool (if m then Zf0 s else s==[])) else none|_=>none
 |_=>none
theorem Z2a{gl:Glob}:OrcSound Y00 gl (Zi4 ZfS):=Z37 λf xs r h=>by
 unfold ZfS at h
 split at h
 · split at h<;>try (cases h;done)
   split at h<;>cases h
   rename_i hs
   exact⟨rfl,ZfR _ hs _⟩
 ·cases h
end
section
def cE(_:Ex)(d:Int)(n:Nat):Bool×Nat:=(decide (((n+1:Nat):Int)<=2000)&&decide (d<=32),n+1)
end
section
set_option maxHeartbeats 8000000
def ZoU(k:Int):Nat:=if k=2\/k=7 then 0 else if k=4 then 2 else 1
def ZoV(k:Int):Bool:=k==10 || k==11
end
section
def cS(_:St)(d:Int)(n:Nat):Bool×Nat:=(decide (((n+1:Nat):Int)<=2000)&&decide (d<=32),n+1)
end
section
theorem Z9j{σ : Type}(x : σ)(f : σ -> Bool×σ):Z3J (true,x) f=f x:=rfl
def Z27:List (List St)->Nat
 |[]=>0
 |l::t=>max (deepSL l) (Z27 t)
theorem Z7Y:∀(t:List (List St))(i:Nat)(h:i<t.length),Z27 (t.take (i+1))=max (Z27 (t.take i)) (deepSL t[i])
 |e::l,0,h=>by simp only[List.take_succ_cons,Y0E,Z27,List.getElem_cons_zero];omega
 |e::l,i+1,h=>by
  have:=Z7Y l i (by simpa using h)
  simp only[List.take_succ_cons,Z27,List.getElem_cons_succ]at this⊢;omega
end
section
set_option maxHeartbeats 8000000
variable {gl:Glob}
def isK(k:Int):Bool:=decide (1<=k/\k<=11)
def hX(k:Int):Int:=if isK k then ZoU k else 0
def hT(k:Int):Bool:=isK k&&ZoV k
end
section
variable {gl:Glob}
theorem Z7Z:∀(t:List (List St)),Z27 t<=Z0j t
 |[]=>Y01 _
 |e::t=>by have:=deepSL_size e;have:=Z7Z t;simp only[Z27,Z0j];omega
end
section
def szH(n:Nat):Z00:=[⟨true,0,0,.cells [.int .i64 n] 3⟩,⟨true,1,0,.cells [.func (.func 51) [] [.ptr 0 0]] 57⟩]
def szE(_:Ex)(_:Int)(n:Nat):Bool×Nat:=(true,n+1)
def szS(_:St)(_:Int)(n:Nat):Bool×Nat:=(true,n+1)
theorem Zms(cs:List AV)(d:Int)(n:Nat)(hn:n<=1152921504606846976):Z2f Y00 runLives.gl 72 [.rp cs,.int .i64 d,.ptr 1 0] (szH n) (.bool true) (szH (n+1)):=by
 refine Z6q (k:=2) follows Z0x (Z2g follows Z0x Z2a 3) rfl Tryd.func72 rfl (Z4e (isC:=λ_=>false) 3) ?_
 repeat' ((conv=>whnf);first|refine stp ?_|with_reducible apply Z03<;>intro h)
 all_goals (conv=>whnf)
 all_goals (exact⟨rfl,rfl⟩)
theorem Zmr(cs:List AV)(d:Int)(n:Nat)(hn:n<=1152921504606846976):Z2f Y00 runLives.gl 73 [.rp cs,.int .i64 d,.ptr 1 0] (szH n) (.bool true) (szH (n+1)):=by
 refine Z6q (k:=2) follows Z0x (Z2g follows Z0x Z2a 3) rfl Tryd.func73 rfl (Z4e (isC:=λ_=>false) 3) ?_
 repeat' ((conv=>whnf);first|refine stp ?_|with_reducible apply Z03<;>intro h)
 all_goals (conv=>whnf)
 all_goals (exact⟨rfl,rfl⟩)
theorem Zkm{n m:Nat}(h:szH n=szH m):n=m:=by
 simp only[szH,List.cons.injEq,AObj.mk.injEq,ABody.cells.injEq,AV.int.injEq,and_true,true_and]at h
 omega
mutual
theorem ZmM:∀(e:Ex)(d:Int)(n:Nat),goE szE e d n=(true,n+Z1v e)
 | .mk o num s k,d,n=>by
  simp only[goE,szE,if_true,Z1v,goL_sz k (d+1) (n+1)]
  rw[Y0y]
theorem goL_sz:∀(l:List Ex)(d:Int)(n:Nat),goL szE l d n=(true,n+sizeL l)
 |[],d,n=>by simp only[goL,sizeL,Y0I]
 |e::l,d,n=>by
  simp only[goL,ZmM e d n,if_true,goL_sz l d,sizeL]
  rw[Y0y]
end
mutual
theorem ZmJ:∀(x:St)(d:Int)(n:Nat),goS szE szS x d n=(true,n+Z1U x)
 | .mk k nm lc o x t e,d,n=>by
  simp only[goS,szS,Z3J,if_true,goL_sz,goSL_sz t,goSL_sz e,Z1U]
  congr 1;omega
theorem goSL_sz:∀(l:List St)(d:Int)(n:Nat),goSL szE szS l d n=(true,n+sizeSL l)
 |[],d,n=>by simp only[goSL,sizeSL,Y0I]
 |e::l,d,n=>by
  simp only[goSL,Z3J,ZmJ e d n,if_true,goSL_sz l d,sizeSL]
  rw[Y0y]
end
theorem ZnC(e:Ex)(rest:List AV)(d:Int)(s m:Nat)(h:0<=d/\d+((m+1:Nat):Int)<=576460752303423488/\s+(m+1)<=576460752303423488):Z2f Y00 runLives.gl 72 ([.rp (e.cells++rest),.int .i64 d]++[.ptr 1 0]) (szH s) (.bool (szE e d s).1) (szH (szE e d s).2) :=
 Zms _ d s (by omega)
theorem ZnB(x:St)(rest:List AV)(d:Int)(s m:Nat)(h:0<=d/\d+((m+1:Nat):Int)<=576460752303423488/\s+(m+1)<=576460752303423488):Z2f Y00 runLives.gl 73 ([.rp (x.cells++rest),.int .i64 d]++[.ptr 1 0]) (szH s) (.bool (szS x d s).1) (szH (szS x d s).2) :=
 Zmr _ d s (by omega)
theorem ZcY(d:Int)(s m:Nat)(h:0<=d/\d+((m+1:Nat):Int)<=576460752303423488/\s+(m+1)<=576460752303423488):0<=d+1/\d+1+(m:Int)<=576460752303423488/\s+1+m<=576460752303423488:=by omega
theorem ZhT(d:Int)(s m:Nat)(h:0<=d/\d+((m+1:Nat):Int)<=576460752303423488/\s+(m+1)<=576460752303423488):0<=d/\d+(m:Int)<=576460752303423488/\s+m<=576460752303423488:=by omega
theorem Zmq(d:Int)(s m:Nat)(h0:0<=d)(h:0<=d+1/\d+1+(m:Int)<=576460752303423488/\s+m<=576460752303423488):0<=d/\d+(m:Int)<=576460752303423488/\s+m<=576460752303423488:=by omega
theorem Zkl(d:Int)(s m:Nat)(h:0<=d/\d+(m:Int)<=576460752303423488/\s+m<=576460752303423488):0<=d/\d<=1152921504606846976:=by omega
def szV:TvS runLives.gl where
 σ:=Nat
 Mem:=szH
 k:=2
 len:=λ_=>rfl
 same:=λs=>⟨⟨hbp,⟨rfl,rfl,rfl,rfl,Y0c ⟨Y09 trivial ⟨Y07 rfl rfl,trivial⟩,trivial⟩⟩,trivial⟩,rfl,rfl⟩
 evo:=λ_ _=>rfl
 inj:=λ_ _ h=>Zkm h
 I:=λd s m=>0<=d/\d+(m:Int)<=576460752303423488/\s+m<=576460752303423488
 up:=λd s m h0 h=>Zmq d s m h0 h
 less:=λd s m h=>ZhT d s m h
 bnd:=λd s m h=>Zkl d s m h
 gE:=72
 cE:=[.ptr 1 0]
 hE:=szE
 bodyE:=by kernel_rfl
 wkE:=⟨Y07 rfl rfl,trivial⟩
 okE:=λe rest d s m _ h=>ZnC e rest d s m h
 downE:=λe d s m h _=>ZcY d s m h
 gS:=73
 cS:=[.ptr 1 0]
 hS:=szS
 bodyS:=by kernel_rfl
 wkS:=⟨Y07 rfl rfl,trivial⟩
 okS:=λx rest d s m _ h=>ZnB x rest d s m h
 downS:=λe d s m h _=>ZcY d s m h
def szF:AV:=.func (.func 72) [] [.ptr 1 0]
def szG:AV:=.func (.func 73) [] [.ptr 1 0]
theorem ZhS(l:List St)(n:Nat)(hok:okSL l)(hl:l.length<=9223372036854775807)(h:1+n+sizeSL l<=1048576):Z2f Y00 runLives.gl 38 [stA l,.int .i64 1,szF,szG] (szH n) (.bool true) (szH (n+sizeSL l)):=by
 have:=TvS.stmts szV (sizeSL l) l 1 n 0 (Y01 _) hok hl (by show (0:Int)<=1/\(1:Int)+((sizeSL l+0:Nat):Int)<=576460752303423488/\n+(sizeSL l+0)<=576460752303423488;omega)
 have e:goSL szV.hE szV.hS l 1 n=(true,n+sizeSL l):=goSL_sz l 1 n
 rw[e]at this
 exact this
def ndH(v:AV)(g nd nt:Nat)(cd ct:List AV):Z00:=[⟨true,0,0,.cells [v] 3⟩,⟨true,1,0,.cells [.rs nd 3 cd,.rs nt 1 ct] 25⟩,⟨true,2,0,.cells [.func (.func g) [] [.ptr 0 0]] 57⟩]
def ndF:AV:=.func (.func 72) [] [.ptr 2 0]
def ndG:AV:=.func (.func 73) [] [.ptr 2 0]
theorem ZnA(nd nt:Nat)(cd ct:List AV)(l:List St)(n:Nat)(hok:okSL l)(hl:l.length<=9223372036854775807)(h:1+n+sizeSL l<=1048576):Z2f Y00 runLives.gl 38 [stA l,.int .i64 1,ndF,ndG] (ndH (.int .i64 n) 51 nd nt cd ct) (.bool true) (ndH (.int .i64 (n+sizeSL l:Nat)) 51 nd nt cd ct):=by
 have hM:=ZhS l n hok hl h
 have h:=Z5c (m:=[0,2]) (n:=3) (Hc:=ndH (.int .i64 n) 51 nd nt cd ct) (cargs:=[stA l,.int .i64 1,ndF,ndG]) hM ?_ ?_ rfl rfl rfl rfl rfl rfl
 · have e1:ZcQ [0,2] (szH (n+sizeSL l)) 0 (ndH (.int .i64 n) 51 nd nt cd ct)=ndH (.int .i64 (n+sizeSL l:Nat)) 51 nd nt cd ct:=rfl
   rw[e1]at h
   exact h
 ·rfl
 ·exact⟨hbp,⟨rfl,rfl,rfl,rfl,Y0c ⟨Y09 trivial ⟨Y07 rfl rfl,trivial⟩,trivial⟩⟩,trivial⟩
theorem ZfG{v w:AV}{g nd nt:Nat}{cd ct:List AV}(h:ndH v g nd nt cd ct=ndH w g nd nt cd ct):v=w:=by
 simp only[ndH,List.cons.injEq,AObj.mk.injEq,ABody.cells.injEq,and_true,true_and]at h
 exact h
theorem Zi5 (ts : List (List St)) (nd : Nat) (cd : List AV) (n : Nat) (hok : ZfE ts) (hl : ts.length <= 9223372036854775807) (h : 1 + n + Z0j ts <= 1048576) :
  Z2f Y00 runLives.gl 35 [.agg [.rs nd 3 cd,.rs ts.length 1 (ts.map stA)],.func (.func 51) [] [.ptr 0 0]] [⟨true,0,0,.cells [.int .i64 n] 3⟩] (.tuple []) [⟨true,0,0,.cells [.int .i64 (n+Z0j ts:Nat)] 3⟩]:=by
 obtain⟨O,hO,⟨p1,-⟩,-⟩:=Zge (P:=Y00) (gl:=runLives.gl) [{ I:=List St×Nat,f:=38,G:=(λp=>okSL p.1/\p.1.length<=9223372036854775807/\1+p.2+sizeSL p.1<=1048576),A:=(λp=>[stA p.1,.int .i64 1,ndF,ndG]),H:=(λp=>ndH (.int .i64 p.2) 51 nd ts.length cd (ts.map stA)),R:=(λp=>.bool true),O:=(λp=>ndH (.int .i64 (p.2+sizeSL p.1:Nat)) 51 nd ts.length cd (ts.map stA)),body:=(by kernel_rfl),inj:=(λp q _ _ ha hh=>by simp only[List.cons.injEq,and_true]at ha;have:=ZfG hh;simp only[AV.int.injEq,true_and]at this;rw[Z3R ha,show p.2=q.2 by omega];exact⟨rfl,rfl⟩),ok:=(λp hp=>ZnA _ _ _ _ p.1 p.2 hp.1 hp.2.1 hp.2.2) }] [] rfl
 have q1:∀l n,okSL l->l.length<=9223372036854775807->1+n+sizeSL l<=1048576->Z08 Y00 O (ndH (.int .i64 (n:Nat)) 51 nd ts.length cd (ts.map stA)) 38 [stA l,.int .i64 1,ndF,ndG]=some (.bool true,ndH (.int .i64 (n+sizeSL l:Nat)) 51 nd ts.length cd (ts.map stA)):=λl n h1 h2 h3=>p1 (l,n) ⟨h1,h2,h3⟩
 clear p1
 refine Z6q (k:=1) follows Z0x hO rfl Tryd.func35 rfl (Z5k _ _) ?_
 repeat' ((conv=>whnf);first|refine stp ?_|with_reducible apply Z03<;>intro h)
 conv=>whnf
 refine⟨Nat,(λi=>i<=ts.length),(λi=>[(4,ndF),(5,ndG),(11,.rs ts.length 1 (ts.map stA)),(12,.int .i64 ts.length),(13,.int .i64 i)]),(λi=>ndH (.int .i64 (n+Z0j (ts.take i):Nat)) 51 nd ts.length cd (ts.map stA)),(λi=>ts.length-i),⟨0,Y0q _,FgLK.mk [0,1,2] rfl rfl ?_ ⟨hbp,hbp,⟨rfl,rfl,rfl,rfl,Y0c ⟨Y09 trivial ⟨Y07 rfl rfl,trivial⟩,trivial⟩⟩,trivial⟩ rfl⟩,?_⟩
 · refine Y06 (Y09 trivial ⟨Y07 rfl rfl,trivial⟩) ?_
   refine Y06 (Y09 trivial ⟨Y07 rfl rfl,trivial⟩) ?_
   refine Y06 (Wk.noref rfl) ?_
   refine Y06 (Y0f rfl) ?_
   exact⟨Y0f rfl,trivial⟩
 intro i hi
 dsimp only
 by_cases hlt:i<ts.length
 · have e1:decide ((i:Int)<(ts.length:Int))=true:=by simpa using hlt
   have hs:=Z7f ts i hlt
   have hle:=Z7g ts i hlt
   have hx:=th1 ts i hlt
   obtain⟨k1,k2⟩:=Z2H hok _ (Z0c hlt)
   have q2:=q1 ts[i] (n+Z0j (ts.take i)) k1 k2 (by omega)
   generalize ts[i]=l at *
   simp only[stA]at hx
   simp only[stA,ndF,ndG,ndH]at q2
   repeat' ((conv=>whnf);first|refine exI hx ?_|refine exI q2 ?_|(with_reducible refine ixJ i rfl ?_ ?_;focus omega)|refine stp ?_|with_reducible apply Z03<;>intro h)
   conv=>whnf
   refine⟨i+1,hlt,by show ts.length-(i+1)<ts.length-i;omega,FgLK.mk [0,1,2] rfl rfl ?_ ⟨⟨rfl,rfl,rfl,rfl,?_⟩,hbp,⟨rfl,rfl,rfl,rfl,Y0c ⟨Y09 trivial ⟨Y07 rfl rfl,trivial⟩,trivial⟩⟩,trivial⟩ rfl⟩
   · refine Y06 (Y09 trivial ⟨Y07 rfl rfl,trivial⟩) ?_
     refine Y06 (Y09 trivial ⟨Y07 rfl rfl,trivial⟩) ?_
     refine Y06 (Wk.noref rfl) ?_
     refine Y06 (Y0f rfl) ?_
     exact⟨Y0f rfl,trivial⟩
   · rw[hs,<- Y0y]
     exact Y05 (rest:=[]) rfl rfl
 · have e1:decide ((i:Int)<(ts.length:Int))=false:=by simpa using hlt
   have hi2:i=ts.length:=by have:=hi;omega
   subst hi2
   rw[Y0u]
   repeat' ((conv=>whnf);first|refine stp ?_|with_reducible apply Z03<;>intro h)
   all_goals (conv=>whnf)
   all_goals (exact⟨rfl,rfl⟩)
end
section
def mx(n d:Int):Int:=if d>n then d else n
def dpH(n:Int):Z00:=[⟨true,0,0,.cells [.int .i64 n] 3⟩,⟨true,1,0,.cells [.func (.func 43) [] [.ptr 0 0]] 57⟩]
def dpE(_:Ex)(d:Int)(n:Int):Bool×Int:=(true,mx n d)
def dpS(_:St)(d:Int)(n:Int):Bool×Int:=(true,mx n d)
theorem Zn1(cs:List AV)(d n:Int):Z2f Y00 runLives.gl 72 [.rp cs,.int .i64 d,.ptr 1 0] (dpH n) (.bool true) (dpH (mx n d)):=by
 refine Z6q (k:=2) follows Z0x (Z2g follows Z0x Z2a 3) rfl Tryd.func72 rfl (Z4e (isC:=λ_=>false) 3) ?_
 repeat' ((conv=>whnf);first|refine stp ?_|with_reducible apply Z03<;>intro h)
 all_goals (conv=>whnf)
 all_goals (exact⟨by unfold mx;rfl,rfl⟩)
theorem Zn0(cs:List AV)(d n:Int):Z2f Y00 runLives.gl 73 [.rp cs,.int .i64 d,.ptr 1 0] (dpH n) (.bool true) (dpH (mx n d)):=by
 refine Z6q (k:=2) follows Z0x (Z2g follows Z0x Z2a 3) rfl Tryd.func73 rfl (Z4e (isC:=λ_=>false) 3) ?_
 repeat' ((conv=>whnf);first|refine stp ?_|with_reducible apply Z03<;>intro h)
 all_goals (conv=>whnf)
 all_goals (exact⟨by unfold mx;rfl,rfl⟩)
theorem Zly{n m:Int}(h:dpH n=dpH m):n=m:=by
 simp only[dpH,List.cons.injEq,AObj.mk.injEq,ABody.cells.injEq,AV.int.injEq,and_true,true_and]at h
 exact h
theorem Zdb(n d:Int):mx n d=max n d:=by unfold mx;split<;>omega
mutual
theorem ZmO:∀(e:Ex)(d n:Int),goE dpE e d n=(true,max n (d-1+ZeA e))
 | .mk o num s k,d,n=>by
  simp only[goE,dpE,if_true,ZeA,goL_dp k (d+1) (mx n d) (by rw[Zdb];omega)]
  rw[Zdb];congr 1;omega
theorem goL_dp:∀(l:List Ex)(d n:Int),d-1<=n->goL dpE l d n=(true,max n (d-1+deepL l))
 |[],d,n,h=>by simp only[goL,deepL];congr 1;omega
 |e::l,d,n,h=>by
  simp only[goL,ZmO e d n,if_true,goL_dp l d _ (show d-1<=max n (d-1+(ZeA e:Int)) by omega),deepL]
  congr 1;omega
end
mutual
theorem ZmL:∀(x:St)(d n:Int),goS dpE dpS x d n=(true,max n (d-1+Zey x))
 | .mk k nm lc o x t e,d,n=>by
  have h0:d<=mx n d:=by rw[Zdb];omega
  simp only[goS]
  rw[show dpS (.mk k nm lc o x t e) d n=(true,mx n d) from rfl,Z9j,goL_dp x (d+1) (mx n d) (by omega),Z9j,goSL_dp t (d+1) _ (by omega),Z9j,goSL_dp e (d+1) _ (by omega)]
  rw[Zdb]
  simp only[Zey]
  congr 1;omega
theorem goSL_dp:∀(l:List St)(d n:Int),d-1<=n->goSL dpE dpS l d n=(true,max n (d-1+deepSL l))
 |[],d,n,h=>by simp only[goSL,deepSL];congr 1;omega
 |e::l,d,n,h=>by
  simp only[goSL,Z3J,ZmL e d n,if_true,goSL_dp l d _ (show d-1<=max n (d-1+(Zey e:Int)) by omega),deepSL]
  congr 1;omega
end
theorem ZdE(d:Int)(m:Nat)(h:0<=d/\d+((m+1:Nat):Int)<=576460752303423488):0<=d+1/\d+1+(m:Int)<=576460752303423488:=by omega
theorem ZiV(d:Int)(m:Nat)(h:0<=d/\d+((m+1:Nat):Int)<=576460752303423488):0<=d/\d+(m:Int)<=576460752303423488:=by omega
theorem ZmZ(d:Int)(m:Nat)(h0:0<=d)(h:0<=d+1/\d+1+(m:Int)<=576460752303423488):0<=d/\d+(m:Int)<=576460752303423488:=by omega
theorem Zlx(d:Int)(m:Nat)(h:0<=d/\d+(m:Int)<=576460752303423488):0<=d/\d<=1152921504606846976:=by omega
def dpV:TvS runLives.gl where
 σ:=Int
 Mem:=dpH
 k:=2
 len:=λ_=>rfl
 same:=λs=>⟨⟨hbp,⟨rfl,rfl,rfl,rfl,Y0c ⟨Y09 trivial ⟨Y07 rfl rfl,trivial⟩,trivial⟩⟩,trivial⟩,rfl,rfl⟩
 evo:=λ_ _=>rfl
 inj:=λ_ _ h=>Zly h
 I:=λd s m=>0<=d/\d+(m:Int)<=576460752303423488
 up:=λd s m h0 h=>ZmZ d m h0 h
 less:=λd s m h=>ZiV d m h
 bnd:=λd s m h=>Zlx d m h
 gE:=72
 cE:=[.ptr 1 0]
 hE:=dpE
 bodyE:=by kernel_rfl
 wkE:=⟨Y07 rfl rfl,trivial⟩
 okE:=λe rest d s m _ h=>Zn1 (e.cells++rest) d s
 downE:=λe d s m h _=>ZdE d m h
 gS:=73
 cS:=[.ptr 1 0]
 hS:=dpS
 bodyS:=by kernel_rfl
 wkS:=⟨Y07 rfl rfl,trivial⟩
 okS:=λx rest d s m _ h=>Zn0 (x.cells++rest) d s
 downS:=λe d s m h _=>ZdE d m h
theorem ZiU(l:List St)(n:Nat)(hok:okSL l)(hl:l.length<=9223372036854775807)(h:sizeSL l<=1048576):Z2f Y00 runLives.gl 38 [stA l,.int .i64 1,szF,szG] (dpH n) (.bool true) (dpH (max n (deepSL l):Nat)):=by
 have:=TvS.stmts dpV (sizeSL l) l 1 (n:Int) 0 (Y01 _) hok hl (by show (0:Int)<=1/\(1:Int)+((sizeSL l+0:Nat):Int)<=576460752303423488;omega)
 have e:goSL dpV.hE dpV.hS l 1 (n:Int)=(true,((max n (deepSL l):Nat):Int)):=by
  have:=goSL_dp l 1 n (by omega)
  show goSL dpE dpS l 1 (n:Int)=_
  rw[this];congr 1;omega
 rw[e]at this
 exact this
theorem Zo3(nd nt:Nat)(cd ct:List AV)(l:List St)(n:Nat)(hok:okSL l)(hl:l.length<=9223372036854775807)(h:sizeSL l<=1048576):Z2f Y00 runLives.gl 38 [stA l,.int .i64 1,ndF,ndG] (ndH (.int .i64 n) 43 nd nt cd ct) (.bool true) (ndH (.int .i64 (max n (deepSL l):Nat)) 43 nd nt cd ct):=by
 have hM:=ZiU l n hok hl h
 have h:=Z5c (m:=[0,2]) (n:=3) (Hc:=ndH (.int .i64 n) 43 nd nt cd ct) (cargs:=[stA l,.int .i64 1,ndF,ndG]) hM ?_ ?_ rfl rfl rfl rfl rfl rfl
 · have e1:ZcQ [0,2] (dpH (max n (deepSL l):Nat)) 0 (ndH (.int .i64 n) 43 nd nt cd ct)=ndH (.int .i64 (max n (deepSL l):Nat)) 43 nd nt cd ct:=rfl
   rw[e1]at h
   exact h
 ·rfl
 ·exact⟨hbp,⟨rfl,rfl,rfl,rfl,Y0c ⟨Y09 trivial ⟨Y07 rfl rfl,trivial⟩,trivial⟩⟩,trivial⟩
theorem Zi6 (ts : List (List St)) (nd : Nat) (cd : List AV) (n : Nat) (hok : ZfE ts) (hl : ts.length <= 9223372036854775807) (h : Z0j ts <= 1048576) :
  Z2f Y00 runLives.gl 35 [.agg [.rs nd 3 cd,.rs ts.length 1 (ts.map stA)],.func (.func 43) [] [.ptr 0 0]] [⟨true,0,0,.cells [.int .i64 n] 3⟩] (.tuple []) [⟨true,0,0,.cells [.int .i64 (max n (Z27 ts):Nat)] 3⟩]:=by
 obtain⟨O,hO,⟨p1,-⟩,-⟩:=Zge (P:=Y00) (gl:=runLives.gl) [{ I:=List St×Nat,f:=38,G:=(λp=>okSL p.1/\p.1.length<=9223372036854775807/\sizeSL p.1<=1048576),A:=(λp=>[stA p.1,.int .i64 1,ndF,ndG]),H:=(λp=>ndH (.int .i64 p.2) 43 nd ts.length cd (ts.map stA)),R:=(λp=>.bool true),O:=(λp=>ndH (.int .i64 (max p.2 (deepSL p.1):Nat)) 43 nd ts.length cd (ts.map stA)),body:=(by kernel_rfl),inj:=(λp q _ _ ha hh=>by simp only[List.cons.injEq,and_true]at ha;have:=ZfG hh;simp only[AV.int.injEq,true_and]at this;rw[Z3R ha,show p.2=q.2 by omega];exact⟨rfl,rfl⟩),ok:=(λp hp=>Zo3 _ _ _ _ p.1 p.2 hp.1 hp.2.1 hp.2.2) }] [] rfl
 have q1:∀l n,okSL l->l.length<=9223372036854775807->sizeSL l<=1048576->Z08 Y00 O (ndH (.int .i64 (n:Nat)) 43 nd ts.length cd (ts.map stA)) 38 [stA l,.int .i64 1,ndF,ndG]=some (.bool true,ndH (.int .i64 (max n (deepSL l):Nat)) 43 nd ts.length cd (ts.map stA)):=λl n h1 h2 h3=>p1 (l,n) ⟨h1,h2,h3⟩
 clear p1
 refine Z6q (k:=1) follows Z0x hO rfl Tryd.func35 rfl (Z5k _ _) ?_
 repeat' ((conv=>whnf);first|refine stp ?_|with_reducible apply Z03<;>intro h)
 conv=>whnf
 refine⟨Nat,(λi=>i<=ts.length),(λi=>[(4,ndF),(5,ndG),(11,.rs ts.length 1 (ts.map stA)),(12,.int .i64 ts.length),(13,.int .i64 i)]),(λi=>ndH (.int .i64 (max n (Z27 (ts.take i)):Nat)) 43 nd ts.length cd (ts.map stA)),(λi=>ts.length-i),⟨0,Y0q _,FgLK.mk [0,1,2] rfl rfl ?_ ⟨⟨rfl,rfl,rfl,rfl,Y05 (rest:=[]) (by simp[Z27]) rfl⟩,hbp,⟨rfl,rfl,rfl,rfl,Y0c ⟨Y09 trivial ⟨Y07 rfl rfl,trivial⟩,trivial⟩⟩,trivial⟩ rfl⟩,?_⟩
 · refine Y06 (Y09 trivial ⟨Y07 rfl rfl,trivial⟩) ?_
   refine Y06 (Y09 trivial ⟨Y07 rfl rfl,trivial⟩) ?_
   refine Y06 (Wk.noref rfl) ?_
   refine Y06 (Y0f rfl) ?_
   exact⟨Y0f rfl,trivial⟩
 intro i hi
 dsimp only
 by_cases hlt:i<ts.length
 · have e1:decide ((i:Int)<(ts.length:Int))=true:=by simpa using hlt
   have hs:=Z7Y ts i hlt
   have hle:=Z7g ts i hlt
   have hx:=th1 ts i hlt
   obtain⟨k1,k2⟩:=Z2H hok _ (Z0c hlt)
   have q2:=q1 ts[i] (max n (Z27 (ts.take i))) k1 k2 (by omega)
   generalize ts[i]=l at *
   simp only[stA]at hx
   simp only[stA,ndF,ndG,ndH]at q2
   repeat' ((conv=>whnf);first|refine exI hx ?_|refine exI q2 ?_|(with_reducible refine ixJ i rfl ?_ ?_;focus omega)|refine stp ?_|with_reducible apply Z03<;>intro h)
   conv=>whnf
   refine⟨i+1,hlt,by show ts.length-(i+1)<ts.length-i;omega,FgLK.mk [0,1,2] rfl rfl ?_ ⟨⟨rfl,rfl,rfl,rfl,?_⟩,hbp,⟨rfl,rfl,rfl,rfl,Y0c ⟨Y09 trivial ⟨Y07 rfl rfl,trivial⟩,trivial⟩⟩,trivial⟩ rfl⟩
   · refine Y06 (Y09 trivial ⟨Y07 rfl rfl,trivial⟩) ?_
     refine Y06 (Y09 trivial ⟨Y07 rfl rfl,trivial⟩) ?_
     refine Y06 (Wk.noref rfl) ?_
     refine Y06 (Y0f rfl) ?_
     exact⟨Y0f rfl,trivial⟩
   · rw[hs,<- Nat.max_assoc]
     exact Y05 (rest:=[]) rfl rfl
 · have e1:decide ((i:Int)<(ts.length:Int))=false:=by simpa using hlt
   have hi2:i=ts.length:=by have:=hi;omega
   subst hi2
   rw[Y0u]
   repeat' ((conv=>whnf);first|refine stp ?_|with_reducible apply Z03<;>intro h)
   all_goals (conv=>whnf)
   all_goals (exact⟨rfl,rfl⟩)
end
section
def szC(ds:List Dc)(ts:List (List St))(v:AV):Z00:=[⟨true,0,0,.cells [.rs ds.length 3 (dcC ds),.rs ts.length 1 (ts.map stA)] 25⟩,⟨true,1,0,.cells [v] 3⟩]
theorem Zkk (ds : List Dc) (ts : List (List St)) (hok : ZfE ts) (hl : ts.length <= 9223372036854775807) (h : Z0j ts <= 1000000) :
  Z2f Y00 runLives.gl 35 [.agg [.rs ds.length 3 (dcC ds),.rs ts.length 1 (ts.map stA)],.func (.func 51) [] [.ptr 1 0]] (szC ds ts (.int .i64 0)) (.tuple []) (szC ds ts (.int .i64 (Z0j ts))):=by
 have hM:=Zi5 ts ds.length (dcC ds) 0 hok hl (by omega)
 rw[Y0b]at hM
 have h:=Z5c (m:=[1]) (n:=2) (Hc:=szC ds ts (.int .i64 0)) (cargs:=[.agg [.rs ds.length 3 (dcC ds),.rs ts.length 1 (ts.map stA)],.func (.func 51) [] [.ptr 1 0]]) hM ?_ ?_ rfl rfl rfl rfl rfl rfl
 ·exact h
 ·rfl
 ·exact⟨hbp,trivial⟩
theorem Zlw (ds : List Dc) (ts : List (List St)) (hok : ZfE ts) (hl : ts.length <= 9223372036854775807) (h : Z0j ts <= 1000000) :
  Z2f Y00 runLives.gl 35 [.agg [.rs ds.length 3 (dcC ds),.rs ts.length 1 (ts.map stA)],.func (.func 43) [] [.ptr 1 0]] (szC ds ts (.int .i64 0)) (.tuple []) (szC ds ts (.int .i64 (Z27 ts))):=by
 have hM:=Zi6 ts ds.length (dcC ds) 0 hok hl (by omega)
 rw[Nat.zero_max]at hM
 have h:=Z5c (m:=[1]) (n:=2) (Hc:=szC ds ts (.int .i64 0)) (cargs:=[.agg [.rs ds.length 3 (dcC ds),.rs ts.length 1 (ts.map stA)],.func (.func 43) [] [.ptr 1 0]]) hM ?_ ?_ rfl rfl rfl rfl rfl rfl
 ·exact h
 ·rfl
 ·exact⟨hbp,trivial⟩
theorem Zfq(p:Pr)(hok:okP p)(hs:Z0j p.threads<=1000000):Z0k Y00 runLives.gl 17 [p.av] (.int .i64 (Z0j p.threads)):=by
 obtain⟨_,ht1,ht2⟩:=hok
 obtain⟨ds,ts⟩:=p
 simp only[Pr.av]at *
 obtain⟨O,hO,⟨p1,-⟩,-⟩:=Zge (P:=Y00) (gl:=runLives.gl) [{ I:=Unit,f:=35,G:=(λ_=>True),A:=(λ_=>[.agg [.rs ds.length 3 (dcC ds),.rs ts.length 1 (ts.map stA)],.func (.func 51) [] [.ptr 1 0]]),H:=(λ_=>szC ds ts (.int .i64 0)),R:=(λ_=>.tuple []),O:=(λ_=>szC ds ts (.int .i64 (Z0j ts))),body:=(by kernel_rfl),inj:=(λ_ _ _ _ _ _=>⟨rfl,rfl⟩),ok:=(λ_ _=>Zkk ds ts ht1 ht2 hs) }] [] rfl
 have q1:Z08 Y00 O (szC ds ts (.int .i64 0)) 35 [.agg [.rs ds.length 3 (dcC ds),.rs ts.length 1 (ts.map stA)],.func (.func 51) [] [.ptr 1 0]]=some (.tuple [],szC ds ts (.int .i64 (Z0j ts))):=p1 () trivial
 clear p1
 refine Z0C follows Z0x hO Tryd.func17 rfl ?_
 repeat' ((conv=>whnf);first|refine exI q1 ?_|refine stp ?_|with_reducible apply Z03<;>intro h)
 all_goals (conv=>whnf)
 all_goals rfl
theorem Zgv(p:Pr)(hok:okP p)(hs:Z0j p.threads<=1000000):Z0k Y00 runLives.gl 12 [p.av] (.int .i64 (Z27 p.threads)):=by
 obtain⟨_,ht1,ht2⟩:=hok
 obtain⟨ds,ts⟩:=p
 simp only[Pr.av]at *
 obtain⟨O,hO,⟨p1,-⟩,-⟩:=Zge (P:=Y00) (gl:=runLives.gl) [{ I:=Unit,f:=35,G:=(λ_=>True),A:=(λ_=>[.agg [.rs ds.length 3 (dcC ds),.rs ts.length 1 (ts.map stA)],.func (.func 43) [] [.ptr 1 0]]),H:=(λ_=>szC ds ts (.int .i64 0)),R:=(λ_=>.tuple []),O:=(λ_=>szC ds ts (.int .i64 (Z27 ts))),body:=(by kernel_rfl),inj:=(λ_ _ _ _ _ _=>⟨rfl,rfl⟩),ok:=(λ_ _=>Zlw ds ts ht1 ht2 hs) }] [] rfl
 have q1:Z08 Y00 O (szC ds ts (.int .i64 0)) 35 [.agg [.rs ds.length 3 (dcC ds),.rs ts.length 1 (ts.map stA)],.func (.func 43) [] [.ptr 1 0]]=some (.tuple [],szC ds ts (.int .i64 (Z27 ts))):=p1 () trivial
 clear p1
 refine Z0C follows Z0x hO Tryd.func12 rfl ?_
 repeat' ((conv=>whnf);first|refine exI q1 ?_|refine stp ?_|with_reducible apply Z03<;>intro h)
 all_goals (conv=>whnf)
 all_goals rfl
end
section
variable {gl:Glob}
mutual
theorem Ze7:∀e:Ex,Z1V e e=true
 | .mk o n s k=>by simp only[Z1V,sameL_refl k,beq_self_eq_true,Y0g]
theorem sameL_refl:∀l:List Ex,sameL l l=true
 |[]=>by simp only[sameL]
 |e::l=>by simp only[sameL,Ze7 e,sameL_refl l,Y0g]
end
mutual
theorem Ze5:∀e:St,Z22 e e=true
 | .mk k n l o x t e=>by simp only[Z22,sameL_refl x,sameSL_refl t,sameSL_refl e,beq_self_eq_true,Y0g]
theorem sameSL_refl:∀l:List St,sameSL l l=true
 |[]=>by simp only[sameSL]
 |e::l=>by simp only[sameSL,Ze5 e,sameSL_refl l,Y0g]
end
theorem Z8C(p:Pr):Ze6 p p=true:=by
 unfold Ze6
 rw[Z88 Z1k λd _=>by simp[Z1k],Z88 sameSL λt _=>sameSL_refl t];rfl
end
end Go.Proofs.YtajhailaofchlaaDoor.lex
section
namespace Go.Proofs.YtajhailaofchlaaDoor.shelf
open Go.Shelf Go.RowKit Go.Maps Go.Sort
def Z8T:Go.Shelf.Ren:=⟨fun|7=>65|10=>84|n=>n,fun|23=>78|26=>9|3=>79|28=>83|0=>0|27=>82|33=>68|4=>4|n=>n,fun|n=>n⟩
theorem ZmF:Go.Proofs.SlLaysZ.n7 Y00 Z8T:={
 mixed:=by kernel_rfl
 f7:=⟨Tryd.f65.name,by decide,Tryd.func65.trans (congrArg some (by kernel_rfl))⟩
 f10:=⟨Tryd.f84.name,by decide,Tryd.func84.trans (congrArg some (by kernel_rfl))⟩
 t0:=Y14
 a0:=Tryd.isAgg0
 z0:=Tryd.sizeOf0
 v0:=Y15
 t4:=Tryd.underlying4
 a4:=Tryd.isAgg4
 z4:=Tryd.sizeOf4
 v4:=Tryd.zeroValue4
 t23:=Tryd.underlying78
 a23:=Tryd.isAgg78
 z23:=Tryd.sizeOf78
 v23:=Tryd.zeroValue78
 t26:=Y0P
 a26:=Y0Q
 z26:=Y0R
 v26:=Y0S
 t27:=Tryd.underlying82
 a27:=Tryd.isAgg82
 z27:=Tryd.sizeOf82
 v27:=Tryd.zeroValue82
 t28:=Tryd.underlying83
 a28:=Tryd.isAgg83
 z28:=Tryd.sizeOf83
 v28:=Tryd.zeroValue83
 t33:=Tryd.underlying68
 a33:=Tryd.isAgg68
 z33:=Tryd.sizeOf68
 v33:=Tryd.zeroValue68 }
def Z6d:Go.Shelf.Ren:=⟨fun|6=>64|8=>82|9=>83|11=>92|13=>94|12=>93|23=>109|24=>110|14=>100|15=>101|16=>102|17=>103|18=>104|19=>105|20=>106|21=>107|22=>108|25=>111|26=>112|27=>113|28=>114|29=>115|30=>116|31=>117|n=>n,fun|26=>9|28=>83|24=>46|0=>0|3=>3|37=>114|48=>126|50=>128|4=>4|40=>119|39=>118|45=>86|5=>5|9=>9|51=>129|55=>133|57=>135|58=>136|33=>68|n=>n,fun|n=>n⟩
theorem ZhY:Go.Proofs.SlLaysZ.n6 Y00 Z6d:={
 mixed:=by kernel_rfl
 f6:=⟨Tryd.f64.name,by decide,Tryd.func64.trans (congrArg some (by kernel_rfl))⟩
 f8:=⟨Tryd.f82.name,by decide,Tryd.func82.trans (congrArg some (by kernel_rfl))⟩
 f11:=⟨Tryd.f92.name,by decide,Tryd.func92.trans (congrArg some (by kernel_rfl))⟩
 t0:=Y14
 a0:=Tryd.isAgg0
 z0:=Tryd.sizeOf0
 v0:=Y15
 t24:=Y16
 a24:=Tryd.isAgg46
 z24:=Tryd.sizeOf46
 v24:=Y17
 t26:=Y0P
 a26:=Y0Q
 z26:=Y0R
 v26:=Y0S
 t28:=Tryd.underlying83
 a28:=Tryd.isAgg83
 z28:=Tryd.sizeOf83
 v28:=Tryd.zeroValue83
 i26:=by kernel_rfl }
def Ze4:Go.Shelf.Ren:=⟨fun|6=>83|8=>94|9=>93|19=>109|20=>110|21=>100|22=>101|23=>102|24=>103|25=>104|26=>105|27=>106|28=>107|29=>108|36=>111|31=>112|32=>113|37=>114|38=>115|39=>116|41=>117|n=>n,fun|27=>46|29=>9|3=>3|32=>114|26=>46|0=>0|44=>126|46=>128|4=>4|36=>119|35=>118|41=>86|5=>5|9=>9|53=>129|57=>133|63=>135|64=>136|n=>n,fun|n=>n⟩
theorem Zjp:Go.Proofs.SlLaysM.n6 Y00 Ze4:={
 mixed:=by kernel_rfl
 f6:=⟨Tryd.f83.name,by decide,Tryd.func83.trans (congrArg some (by kernel_rfl))⟩
 f8:=Tryd.func94.trans (congrArg some (by kernel_rfl))
 f9:=⟨Tryd.f93.name,by decide,Tryd.func93.trans (congrArg some (by kernel_rfl))⟩
 f19:=Tryd.func109.trans (congrArg some (by kernel_rfl))
 f20:=Tryd.func110.trans (congrArg some (by kernel_rfl))
 f21:=⟨Tryd.f100.name,by decide,Tryd.func100.trans (congrArg some (by kernel_rfl))⟩
 f22:=⟨Tryd.f101.name,by decide,Tryd.func101.trans (congrArg some (by kernel_rfl))⟩
 f23:=⟨Tryd.f102.name,by decide,Tryd.func102.trans (congrArg some (by kernel_rfl))⟩
 f24:=⟨Tryd.f103.name,by decide,Tryd.func103.trans (congrArg some (by kernel_rfl))⟩
 f25:=⟨Tryd.f104.name,by decide,Tryd.func104.trans (congrArg some (by kernel_rfl))⟩
 f26:=⟨Tryd.f105.name,by decide,Tryd.func105.trans (congrArg some (by kernel_rfl))⟩
 f27:=⟨Tryd.f106.name,by decide,Tryd.func106.trans (congrArg some (by kernel_rfl))⟩
 f28:=⟨Tryd.f107.name,by decide,Tryd.func107.trans (congrArg some (by kernel_rfl))⟩
 f29:=⟨Tryd.f108.name,by decide,Tryd.func108.trans (congrArg some (by kernel_rfl))⟩
 f31:=Tryd.func112.trans (congrArg some (by kernel_rfl))
 f32:=Tryd.func113.trans (congrArg some (by kernel_rfl))
 f36:=⟨Tryd.f111.name,by decide,Tryd.func111.trans (congrArg some (by kernel_rfl))⟩
 f37:=⟨Tryd.f114.name,by decide,Tryd.func114.trans (congrArg some (by kernel_rfl))⟩
 f38:=⟨Tryd.f115.name,by decide,Tryd.func115.trans (congrArg some (by kernel_rfl))⟩
 f39:=⟨Tryd.f116.name,by decide,Tryd.func116.trans (congrArg some (by kernel_rfl))⟩
 f41:=⟨Tryd.f117.name,by decide,Tryd.func117.trans (congrArg some (by kernel_rfl))⟩
 t0:=Y14
 a0:=Tryd.isAgg0
 z0:=Tryd.sizeOf0
 v0:=Y15
 t3:=Tryd.underlying3
 a3:=Tryd.isAgg3
 z3:=Tryd.sizeOf3
 v3:=Tryd.zeroValue3
 t4:=Tryd.underlying4
 a4:=Tryd.isAgg4
 z4:=Tryd.sizeOf4
 v4:=Tryd.zeroValue4
 t5:=Tryd.underlying5
 a5:=Tryd.isAgg5
 z5:=Tryd.sizeOf5
 v5:=Tryd.zeroValue5
 t9:=Y0P
 a9:=Y0Q
 z9:=Y0R
 v9:=Y0S
 t26:=Y16
 a26:=Tryd.isAgg46
 z26:=Tryd.sizeOf46
 v26:=Y17
 t27:=Y16
 a27:=Tryd.isAgg46
 z27:=Tryd.sizeOf46
 v27:=Y17
 t29:=Y0P
 a29:=Y0Q
 z29:=Y0R
 v29:=Y0S
 t32:=Tryd.underlying114
 a32:=Tryd.isAgg114
 z32:=Tryd.sizeOf114
 v32:=Tryd.zeroValue114
 t35:=Tryd.underlying118
 a35:=Tryd.isAgg118
 z35:=Tryd.sizeOf118
 v35:=Tryd.zeroValue118
 t36:=Tryd.underlying119
 a36:=Tryd.isAgg119
 z36:=Tryd.sizeOf119
 v36:=Tryd.zeroValue119
 t41:=Tryd.underlying86
 a41:=Tryd.isAgg86
 z41:=Tryd.sizeOf86
 v41:=Tryd.zeroValue86
 t44:=Tryd.underlying126
 a44:=Tryd.isAgg126
 z44:=Tryd.sizeOf126
 v44:=Tryd.zeroValue126
 t46:=Tryd.underlying128
 a46:=Tryd.isAgg128
 z46:=Tryd.sizeOf128
 v46:=Tryd.zeroValue128
 t53:=Tryd.underlying129
 a53:=Tryd.isAgg129
 z53:=Tryd.sizeOf129
 v53:=Tryd.zeroValue129
 t57:=Tryd.underlying133
 a57:=Tryd.isAgg133
 z57:=Tryd.sizeOf133
 v57:=Tryd.zeroValue133
 t63:=Tryd.underlying135
 a63:=Tryd.isAgg135
 z63:=Tryd.sizeOf135
 v63:=Tryd.zeroValue135
 t64:=Tryd.underlying136
 a64:=Tryd.isAgg136
 z64:=Tryd.sizeOf136
 v64:=Tryd.zeroValue136 }
theorem ZnG(m:Nat):AnyZ.SortsIn Y00 Z6d Fence.wide m :=
 ⟨λblk off cap ss W hH hblk hsz=>callsIn_wide.2 (AnyM.slices_Sort_string Zjp blk off cap ss W hH hblk hsz),
  λp cap W=>callsIn_wide.2 (AnyM.slices_Sort_string_none Zjp p cap W)⟩
set_option maxHeartbeats 1000000 in
theorem Zfm:Go.Abs.SortsKeys Y00 64 84 9:=by
 intro Bm b nn D0 R W hcell hown hmax hbytes
 have hBm:Bm<W.heap.size:=by
  by_cases h:Bm<W.heap.size
  ·exact h
  · have h2:W.heap[Bm]? = none:=Array.getElem?_eq_none (by omega)
    simp[World.cell?,h2]at hcell
 have hseq:SeqGives Fence.wide 2 Y00 84 #[.pointer (some ⟨Bm,0,none⟩)] encStr (λss=>ss.Perm (strKeys D0)) (Maps.size D0) W :=
  AnyZ.keys_gives (ρ:=Z8T) { ZmF with } Fence.wide _ trivial rfl (by omega) Bm b nn D0 W hBm hcell hown
 exact callsIn_wide.1 (AnyZ.sorted_in ZhY Fence.wide 5 trivial trivial trivial trivial rfl (by omega) (ZnG _) (enters_of Tryd.func83 (by kernel_rfl) rfl) 84 #[.pointer (some ⟨Bm,0,none⟩)] trivial (enters_of Tryd.func84 (by kernel_rfl) rfl) _ _ hmax hbytes W hseq)
theorem ZoS:Y00.underlying 9=some .string:=by kernel_rfl
theorem sound{gl:Go.Abs.Glob}:Go.Abs.OrcSound Y00 gl (Go.Abs.sortO 64 84):=Go.Abs.sortO_sound Zfm ZoS
end Go.Proofs.YtajhailaofchlaaDoor.shelf
end
section
namespace Go.Proofs.YtajhailaofchlaaDoor.runLives
open Go.RowKit Go.Abs
def isS(l:List (Nat×List AV)):Nat->List AV->Bool:=λf args=>Nat.beq f 64 || Zmb f args l
noncomputable def foS(l:List (Nat×List AV)):Z5z:=Z9O (λf _=>Nat.beq f 64) (ZfZ 64 84) (Zl7 l)
def toS(l:List (Nat×List AV)):Orc:=Zee (λf _=>Nat.beq f 64) (sortO 64 84) (ZeV l)
theorem ZoP(l:List (Nat×List AV)):Z1F (foS l) (toS l):=Zb5 (Zeq 64 84) (ZfY l)
theorem ZnR:Z9u (ZiB Y00 gl (isS []) (foS []) 100000 100 8 [] TH.empty)=true:=by kernel_rfl
theorem knownLives:OrcSound Y00 gl (ZeV [(8,[])]):=Zch follows Z0x (ZoP []) (Zc5 shelf.sound ZcX) ZcX rfl ZnR
end Go.Proofs.YtajhailaofchlaaDoor.runLives
end

/-
  Texts of this proof, one behind the other (part 8).
-/
import Derived.Test.YthbimonbnaodkaaGreatDoorXj7
set_option linter.unusedVariables false
set_option linter.unusedSimpArgs false
set_option maxRecDepth 100000
set_option maxHeartbeats 4000000
open Go.Proofs.Tryz renaming prog → Y00,underlying3 → Y0j,underlying37 → Y0n,func91 → Y0w,underlying69 → Y0H,underlying24 → Y0I
open Go.Abs.FgL renaming mk → Y01
open Nat renaming le_refl → Y02,zero_le → Y0c,beq → Y0e,eq_of_beq_eq_true → Y0u
open And renaming intro → Y03
open List renaming append_nil → Y04,length_cons → Y06,take_length → Y09,length_nil → Y0a,length_append → Y0b,append_assoc → Y0d,cons_ne_nil → Y0m,length_take → Y0o,getElem?_eq_getElem → Y0p,take_zero → Y0q,all_eq_true → Y0s,getElem?_set_ne → Y0v,flatten_cons → Y0x,flatten_nil → Y0y,reverse_cons → Y0z,nil_append → Y0A,all_append → Y0B,cons_append → Y0C,getElem?_set_self → Y0D,getElem?_eq_some_iff → Y0E,mem_singleton → Y0F
open Go.Abs.BodyGe renaming pre → Y05,cellsL → Y0i
open Bool renaming and_eq_true → Y07,true_and → Y0f,false_and → Y0k,not_eq_true → Y0l,and_true → Y0r,eq_false_iff → Y0t,eq_iff_iff → Y0J
open Go.Abs.Wk renaming ptr → Y08,noref → Y0g,slice → Y0h
open Int renaming toNat_natCast → Y0G
section
namespace Go.Proofs.YthbimonbnaodkaaGreatDoor.lex
open Go.Abs Go.RowKit Go.Flat
variable {gl:Z0o}
def exZ(l:List Ex)(i:Nat):List AV:=exC (l.take i)++Z2D (l.length-i) [.int .i64 0,.int .i64 0,.str [],.nslice]
theorem ZmQ(l:List Ex)(i k:Nat)(h:i<l.length)(hk:k=i*4):spl (exZ l i) k l[i].cells=some (exZ l (i+1)):=by
 have hl:(exC (l.take i)).length=i*4:=by rw[Z6b,Y0o,Nat.min_eq_left (by omega)]
 have e:l.length-i=(l.length-(i+1))+1:=by omega
 unfold exZ
 rw[e,hk,<- hl]
 show spl (_++([.int .i64 0,.int .i64 0,.str [],.nslice]++Z2D (l.length-(i+1)) [.int .i64 0,.int .i64 0,.str [],.nslice])) _ _=_
 rw[ZoB _ _ _ _ (by rw[Z2c];rfl),List.take_add_one,Z4T,Y0p h]
 simp only[Option.toList_some,exC,Y04,Y0d]
theorem ZkC(l:List Ex):exZ l 0=Z2D l.length [.int .i64 0,.int .i64 0,.str [],.nslice]:=by simp only[exZ,Y0q,exC,Y0A,Nat.sub_zero]
theorem ZmR(l:List Ex):exZ l l.length=exC l:=by simp only[exZ,Y09,Nat.sub_self,Z2D,Y04]
theorem Zad(l:List Ex)(i:Nat):refsL (exZ l i) []=[]:=by
 refine Z1S ?_
 unfold exZ
 rw[Y0B,ZeS (Z2m _),Z45 _ rfl,Y0r]
theorem ZnW(n:Nat)(h:n<=1048576)(H:Z00):Z1B Y00 35 (.int .i64 n) (.int .i64 n) H=some (.slice H.length 0 n n 4,Z1s H (Z2D n [.int .i64 0,.int .i64 0,.str [],.nslice]) 69):=by
 have hz:tsz Y00 69=some 4:=by kernel_rfl
 have hb:(Y00.info? 69).map (·.bytes)=some 56:=by kernel_rfl
 have hu:Z2k Y00 69=some (.agg [.int .i64 0,.int .i64 0,.str [],.nslice]):=by kernel_rfl
 exact Z7F Tryz.underlying35 hz hb hu rfl (by decide) n (by omega) (by omega)
theorem ZbP:∀(n:Nat)(l:List Ex),sizeL l<=n->okL l->sizeL l<=1048576->ValOK Y00 gl 105 [exA l] (exA l)
 |n,l,h,hok,hs=>by
  obtain⟨O,hO,p1,-⟩:=fams (P:=Y00) (gl:=gl) [{ I:=List Ex,f:=105,G:=λl=>sizeL l<n/\okL l/\sizeL l<=1048576,A:=λl=>[exA l],R:=λl=>exA l,body:=(by kernel_rfl),inj:=(λi j _ _ h=>by simp only[List.cons.injEq,and_true]at h;exact h),ok:=(λl hl=>⟨rfl,match n,hl.1 with|n+1,h=>ZbP n l (by omega) hl.2.1 hl.2.2⟩) }] rfl
  have q1:∀l,sizeL l<n->okL l->sizeL l<=1048576->∀H,Z02 Y00 O H 105 [exA l]=some (exA l,H):=λl h1 h2 h3=>p1 l ⟨h1,h2,h3⟩
  clear p1
  have hlen:=Z1q l
  have hm:=ZnW l.length (by omega)
  simp only[exA]at q1⊢
  refine Z05 follows Z07 hO Tryz.func105 rfl ?_
  repeat' ((conv=>whnf);first|refine exI (hm _) ?_|refine stp ?_|with_reducible apply Z01<;>intro h)
  conv=>whnf
  refine⟨Nat,(λi=>i<=l.length),(λi=>[(3,.slice 0 0 l.length l.length 4),(9,.rs l.length 4 (exC l)),(10,.int .i64 l.length),(11,.int .i64 i)]),(λi=>[⟨true,0,0,.cells (exZ l i) 69⟩]),(λi=>l.length-i),⟨0,Y0c _,Y01 [0] rfl ?_ ⟨⟨rfl,rfl,rfl,rfl,Y05 (rest:=[]) ?_ (Zad l 0)⟩,trivial⟩ rfl⟩,?_⟩
  · refine Y03 (Y0h rfl rfl rfl (Y02 _) (Y02 _) rfl) ?_
    exact wks
  ·rw[ZkC];simp
  intro i hi
  dsimp only
  by_cases hlt:i<l.length
  · have e1:decide ((i:Int)<(l.length:Int))=true:=by simpa using hlt
    have hx:=ex4 l i hlt
    have hsp:=ZmQ l i (0+i*4) hlt (by omega)
    have hsz:=Z0h _ _ (Z03 hlt)
    have hxo:=Z0k hok _ (Z03 hlt)
    have hrf:=Zad l (i+1)
    generalize hnx:exZ l (i+1)=nx at *
    generalize l[i]=x at *
    obtain⟨o,m,s,k⟩:=x
    have hk:=Z0S hxo
    simp only[Ex.kids,Ex.name,okN]at hk
    simp only[Z0a]at hsz
    have q2:=q1 k (by omega) hk.2 (by omega)
    simp only[Ex.cells,exA]at hx hsp
    clear hk hxo
    repeat' ((conv=>whnf);first|with_reducible refine exI (q2 _) ?_|(with_reducible refine ixJ i rfl ?_ ?_;focus omega)|refine exI hx ?_|refine exI hsp ?_|refine stp ?_|with_reducible apply Z01<;>intro h)
    conv=>whnf
    refine⟨i+1,hlt,by show l.length-(i+1)<l.length-i;omega,Y01 [0] rfl ?_ ⟨⟨rfl,rfl,rfl,rfl,Y05 (rest:=[]) ?_ (Zad l (i+1))⟩,trivial⟩ rfl⟩
    · refine Y03 (Y0h rfl rfl rfl (Y02 _) (Y02 _) rfl) ?_
      exact wks
    ·rw[hnx];simp
  · have e1:decide ((i:Int)<(l.length:Int))=false:=by simpa using hlt
    have hi2:i=l.length:=by have:=hi;omega
    subst hi2
    rw[ZmR]
    repeat' ((conv=>whnf);first|refine stp ?_|with_reducible apply Z01<;>intro h)
    conv=>whnf
    exact⟨_,Z1h (b:=0) rfl (Z6b l) (Z2m l),rfl⟩
theorem ZhW:∀a b:List Ins,inC (a++b)=inC a++inC b
 |[],b=>rfl
 |i::a,b=>by simp only[Y0C,inC,ZhW a b,Y0d]
theorem Za1:∀l:List Ins,(inC l).all ZbA=true
 |[]=>rfl
 |i::l=>by simp only[inC,Y0B,Za1 l,Y0r];rfl
def inZ(l:List Ins)(i:Nat):List AV:=inC (l.take i)++Z2D (l.length-i) [.int .i64 0,.int .i64 0,.int .i64 0,.int .i64 0,.int .i64 0,.nslice]
theorem ZmD(l:List Ins)(i k:Nat)(h:i<l.length)(hk:k=i*6):spl (inZ l i) k (icells l[i])=some (inZ l (i+1)):=by
 have hl:(inC (l.take i)).length=i*6:=by rw[Zd0,Y0o,Nat.min_eq_left (by omega)]
 have e:l.length-i=(l.length-(i+1))+1:=by omega
 unfold inZ
 rw[e,hk,<- hl]
 show spl (_++([.int .i64 0,.int .i64 0,.int .i64 0,.int .i64 0,.int .i64 0,.nslice]++Z2D (l.length-(i+1)) [.int .i64 0,.int .i64 0,.int .i64 0,.int .i64 0,.int .i64 0,.nslice])) _ _=_
 rw[ZoB _ _ _ _ (by simp[icells]),List.take_add_one,ZhW,Y0p h]
 simp only[Option.toList_some,inC,Y04,Y0d]
theorem Zkk(l:List Ins):inZ l 0=Z2D l.length [.int .i64 0,.int .i64 0,.int .i64 0,.int .i64 0,.int .i64 0,.nslice]:=by simp only[inZ,Y0q,inC,Y0A,Nat.sub_zero]
theorem ZmE(l:List Ins):inZ l l.length=inC l:=by simp only[inZ,Y09,Nat.sub_self,Z2D,Y04]
theorem Za0(l:List Ins)(i:Nat):refsL (inZ l i) []=[]:=by
 refine Z1S ?_
 unfold inZ
 rw[Y0B,ZeS (Za1 _),Z45 _ rfl,Y0r]
theorem ZhS(c:Cd)(hok:okC c)(hn:c.ins.length<=1048576)(hs:∀i∈c.ins,sizeL i.ex<=1048576):ValOK Y00 gl 45 [c.av] c.av:=by
 obtain⟨regs,l⟩:=c
 obtain⟨hl,hx⟩:=hok
 simp only[Cd.av]at *
 obtain⟨O,hO,p1,-⟩:=fams (P:=Y00) (gl:=gl) [{ I:=List Ex,f:=105,G:=λl=>okL l/\sizeL l<=1048576,A:=λl=>[exA l],R:=λl=>exA l,body:=(by kernel_rfl),inj:=(λi j _ _ h=>by simp only[List.cons.injEq,and_true]at h;exact h),ok:=(λl hl=>⟨rfl,ZbP _ l (Y02 _) hl.1 hl.2⟩) }] rfl
 have q1:∀l,okL l->sizeL l<=1048576->∀H,Z02 Y00 O H 105 [exA l]=some (exA l,H):=λl h1 h2=>p1 l ⟨h1,h2⟩
 clear p1
 have hz:tsz Y00 37=some 6:=by kernel_rfl
 have hb:(Y00.info? 37).map (·.bytes)=some 64:=by kernel_rfl
 have hu:Z2k Y00 37=some (.agg [.int .i64 0,.int .i64 0,.int .i64 0,.int .i64 0,.int .i64 0,.nslice]):=by kernel_rfl
 have hm:=λH=>Z7F (H:=H) Tryz.underlying22 hz hb hu rfl (by decide) l.length (by omega) (by omega)
 refine Z05 follows Z07 hO Tryz.func45 rfl ?_
 repeat' ((conv=>whnf);first|refine exI (hm _) ?_|refine stp ?_|with_reducible apply Z01<;>intro h)
 conv=>whnf
 refine⟨Nat,(λi=>i<=l.length),(λi=>[(1,.ptr 0 0),(2,.ptr 1 0),(3,.slice 2 0 l.length l.length 6),(11,.rs l.length 6 (inC l)),(12,.int .i64 l.length),(13,.int .i64 (i:Nat))]),(λi=>[⟨true,0,0,.cells [.int .i64 regs,.rs l.length 6 (inC l)] 24⟩,⟨true,1,0,.cells [.int .i64 0,.nslice] 24⟩,⟨true,2,0,.cells (inZ l i) 37⟩]),(λi=>l.length-i),⟨0,Y0c _,Y01 [0,1,2] rfl ?_ ⟨hbp,hbp,⟨rfl,rfl,rfl,rfl,Y05 (rest:=[]) ?_ (Za0 l 0)⟩,trivial⟩ rfl⟩,?_⟩
 ·exact wks
 ·rw[Zkk,Y04];rfl
 intro i hi
 dsimp only at hi⊢
 by_cases hlt:i<l.length
 · have e1:decide ((i:Int)<(l.length:Int))=true:=by simpa using hlt
   have hx6:=in6 l i hlt
   have hsp:=ZmD l i (0+i*6) hlt (by omega)
   have q2:=q1 l[i].ex (hx _ (Z03 hlt)).2 (hs _ (Z03 hlt))
   have hrf:=Za0 l (i+1)
   generalize hnx:inZ l (i+1)=nx at *
   generalize l[i]=x at *
   obtain⟨k,r,lo,od,to,ex⟩:=x
   simp only[icells,exA]at *
   repeat' ((conv=>whnf);first|with_reducible refine exI (q2 _) ?_|(with_reducible refine ixJ i rfl ?_ ?_;focus omega)|refine exI hx6 ?_|refine exI hsp ?_|refine stp ?_|with_reducible apply Z01<;>intro h)
   conv=>whnf
   refine⟨i+1,hlt,by show l.length-(i+1)<l.length-i;omega,Y01 [0,1,2] rfl ?_ ⟨hbp,hbp,⟨rfl,rfl,rfl,rfl,Y05 (rest:=[]) ?_ (Za0 l (i+1))⟩,trivial⟩ rfl⟩
   ·exact wks
   ·rw[hnx];simp
 · have e1:decide ((i:Int)<(l.length:Int))=false:=by simpa using hlt
   have hi2:i=l.length:=by omega
   subst hi2
   rw[ZmE]
   repeat' ((conv=>whnf);first|refine stp ?_|with_reducible apply Z01<;>intro h)
   conv=>whnf
   exact⟨_,Zkp rfl (Z1h (b:=2) rfl (Zd0 l) (Za1 l)),rfl⟩
def ZmM{g:Nat}(hb:Z0l Y00 g=true)(G:Ins×Ins->Prop)(h:∀p,G p->ValOK Y00 gl g [.agg (icells p.1),.agg (icells p.2)] (.bool (Z11 p.1 p.2))):Fam Y00 gl:={ I:=Ins×Ins,f:=g,G:=G,A:=λp=>[.agg (icells p.1),.agg (icells p.2)],R:=λp=>.bool (Z11 p.1 p.2),body:=hb,inj:=(λi j _ _ h=>by simp only[List.cons.injEq,AV.agg.injEq,and_true]at h;rw[Z1g h.1,Z1g h.2]),ok:=(λp hp=>⟨rfl,h p hp⟩) }
theorem ZmT(a b:List Ins)(ha:a.length<=9223372036854775807)(hx:∀i∈a,i.ex.length<=9223372036854775807/\okL i.ex):ValOK Y00 gl 102 [.rs a.length 6 (inC a),.rs b.length 6 (inC b),.func (.func 103) [] []] (.bool (Z3S Z11 a b)):=by
 obtain⟨O,hO,p1,-⟩:=fams (P:=Y00) (gl:=gl) [ZmM (g:=103) (by kernel_rfl) (λp=>p.1∈a/\p.2∈b) (λp hp=>Zfx p.1 p.2 (hx _ hp.1).1 (hx _ hp.1).2)] rfl
 have q1:∀x∈a,∀y∈b,∀H,Z02 Y00 O H 103 [.agg (icells x),.agg (icells y)]=some (.bool (Z11 x y),H):=λx hx y hy=>p1 (x,y) ⟨hx,hy⟩
 clear p1
 refine Z05 follows Z07 hO Tryz.func102 rfl ?_
 by_cases hl:a.length=b.length
 · have e0:((a.length:Int)==(b.length:Int))=true:=by rw[hl];simp
   repeat' ((conv=>whnf);first|refine stp ?_|with_reducible apply Z01<;>intro h)
   conv=>whnf
   refine⟨Nat,(λi=>i<=a.length/\Z3S Z11 (a.take i) (b.take i)=true),(λi=>[(1,.rs b.length 6 (inC b)),(2,.func (.func 103) [] []),(15,.rs a.length 6 (inC a)),(16,.int .i64 a.length),(17,.int .i64 i)]),(λ_=>[]),(λi=>a.length-i),⟨0,⟨Y0c _,rfl⟩,FgL.mk0 rfl ?_⟩,?_⟩
   ·exact wks
   rintro i ⟨hi,hall⟩
   dsimp only
   by_cases hlt:i<a.length
   · have e1:decide ((i:Int)<(a.length:Int))=true:=by simpa using hlt
     have hlt':i<b.length:=by omega
     have hat:=Z2e Z11 a b i hlt hlt'
     rw[hall,Y0f]at hat
     have hfalse:Z11 a[i] b[i]=false->Z3S Z11 a b=false:=Z2V Z11 hlt hlt'
     have hx:=in6 a i hlt
     have hy:=in6 b i hlt'
     have q2:=q1 a[i] (Z03 hlt) b[i] (Z03 hlt')
     generalize a[i]=x at *
     generalize b[i]=y at *
     generalize Z11 x y=w at *
     obtain⟨k,r,lo,od,to,ex⟩:=x
     obtain⟨k',r',lo',od',to',ex'⟩:=y
     simp only[icells]at hx hy q2
     cases w with
     |true =>
      repeat' ((conv=>whnf);first|with_reducible refine exI (q2 _) ?_|(with_reducible refine ixJ i rfl ?_ ?_;focus omega)|refine exI hx ?_|refine exI hy ?_|refine stp ?_|with_reducible apply Z01<;>intro h)
      conv=>whnf
      refine⟨i+1,⟨hlt,hat⟩,by show a.length-(i+1)<a.length-i;omega,FgL.mk0 rfl ?_⟩
      exact wks
     |false =>
      rw[hfalse rfl]
      repeat' ((conv=>whnf);first|with_reducible refine exI (q2 _) ?_|(with_reducible refine ixJ i rfl ?_ ?_;focus omega)|refine exI hx ?_|refine exI hy ?_|refine stp ?_|with_reducible apply Z01<;>intro h)
      all_goals rfl
   · have e1:decide ((i:Int)<(a.length:Int))=false:=by simpa using hlt
     have hi2:i=a.length:=by have:=hi;omega
     subst hi2
     rw[Y09,hl,Y09]at hall
     rw[hall]
     repeat' ((conv=>whnf);first|refine stp ?_|with_reducible apply Z01<;>intro h)
     all_goals rfl
 · rw[Z2U _ _ _ hl]
   have e0:((a.length:Int)==(b.length:Int))=false:=by simpa using (λh=>hl (by omega))
   repeat' ((conv=>whnf);first|refine stp ?_|with_reducible apply Z01<;>intro h)
   all_goals rfl
theorem ZhR(a b:Cd)(ha:okC a):ValOK Y00 gl 43 [a.av,b.av] (.bool (ZcI a b)):=by
 obtain⟨r,l⟩:=a
 obtain⟨r',l'⟩:=b
 obtain⟨hl,hx⟩:=ha
 simp only[Cd.av,ZcI]at *
 obtain⟨O,hO,p1,-⟩:=fams (P:=Y00) (gl:=gl) [{ I:=Unit,f:=102,G:=λ_=>True,A:=λ_=>[.rs l.length 6 (inC l),.rs l'.length 6 (inC l'),.func (.func 103) [] []],R:=λ_=>.bool (Z3S Z11 l l'),body:=(by kernel_rfl),inj:=(λ_ _ _ _ _=>rfl),ok:=(λ_ _=>⟨rfl,ZmT l l' hl hx⟩) }] rfl
 have q1:∀H,Z02 Y00 O H 102 [.rs l.length 6 (inC l),.rs l'.length 6 (inC l'),.func (.func 103) [] []]=some (.bool (Z3S Z11 l l'),H):=p1 () trivial
 clear p1
 generalize Z3S Z11 l l'=w at *
 refine Z05 follows Z07 hO Tryz.func43 rfl ?_
 cases h1:(r==r')
 all_goals simp only[Y0k,Y0f]
 all_goals repeat' ((conv=>whnf);first|refine exI (q1 _) ?_|refine stp ?_|with_reducible apply Z01<;>intro h)
 all_goals rfl
theorem Zmx(a b:List Ins)(hx:∀i∈a,i.ex.length<=9223372036854775807/\okL i.ex)(ha:a.length<=9223372036854775807):ValOK Y00 gl 72 [.rs a.length 6 (inC a),.rs b.length 6 (inC b)] (.bool (Z3S Z11 a b)):=by
 obtain⟨O,hO,p1,-⟩:=fams (P:=Y00) (gl:=gl) [{ I:=List Ex×List Ex,f:=131,G:=λp=>okL p.1/\p.1.length<=9223372036854775807,A:=λp=>[exA p.1,exA p.2],R:=λp=>.bool (sameL p.1 p.2),body:=(by kernel_rfl),inj:=(λi j _ _ h=>by simp only[List.cons.injEq,and_true]at h;rw[Z83 h.1,Z83 h.2]),ok:=(λp hp=>⟨rfl,Zbo p.1 p.2 hp.2 λx hx y hy=>ZeG _ x y (Y02 _) (Z0k hp.1 _ hx)⟩) }] rfl
 have q1:∀x y,okL x->x.length<=9223372036854775807->∀H,Z02 Y00 O H 131 [exA x,exA y]=some (.bool (sameL x y),H):=λx y h1 h2=>p1 (x,y) ⟨h1,h2⟩
 clear p1
 refine Z05 follows Z07 hO Tryz.func72 rfl ?_
 by_cases hl:a.length=b.length
 · have e0:((a.length:Int) != (b.length:Int))=false:=Z0n (b:=true) (by rw[hl];simp)
   repeat' ((conv=>whnf);first|refine stp ?_|with_reducible apply Z01<;>intro h)
   conv=>whnf
   refine⟨Nat,(λi=>i<=a.length/\Z3S Z11 (a.take i) (b.take i)=true),(λi=>[(0,.rs a.length 6 (inC a)),(1,.rs b.length 6 (inC b)),(5,.int .i64 i)]),(λ_=>[]),(λi=>a.length-i),⟨0,⟨Y0c _,rfl⟩,FgL.mk0 rfl ?_⟩,?_⟩
   ·exact wks
   rintro i ⟨hi,hall⟩
   dsimp only
   by_cases hlt:i<a.length
   · have e1:decide ((i:Int)<(a.length:Int))=true:=by simpa using hlt
     have hlt':i<b.length:=by omega
     have hat:=Z2e Z11 a b i hlt hlt'
     rw[hall,Y0f]at hat
     have hfalse:Z11 a[i] b[i]=false->Z3S Z11 a b=false:=Z2V Z11 hlt hlt'
     have hxx:=hx _ (Z03 hlt)
     have hx6:=in6 a i hlt
     have hy6:=in6 b i hlt'
     generalize a[i]=x at *
     generalize b[i]=y at *
     obtain⟨k,r,lo,od,to,ex⟩:=x
     obtain⟨k',r',lo',od',to',ex'⟩:=y
     have q2:=q1 ex ex' hxx.2 hxx.1
     simp only[icells,Z11,exA]at *
     generalize sameL ex ex'=w at *
     cases h1:(k==k')
     case' true=>cases h2:(r==r')
     case' true.true=>cases h3:(lo==lo')
     case' true.true.true=>cases h4:(od==od')
     case' true.true.true.true=>cases h5:(to==to')
     case' true.true.true.true.true=>cases w
     case' true.true.true.true.true.true =>
      have n1:(k != k')=false:=Z0n (b:=true) h1
      have n2:(r != r')=false:=Z0n (b:=true) h2
      have n3:(lo != lo')=false:=Z0n (b:=true) h3
      have n4:(od != od')=false:=Z0n (b:=true) h4
      have n5:(to != to')=false:=Z0n (b:=true) h5
      repeat' ((conv=>whnf);first|with_reducible refine exI (q2 _) ?_|(with_reducible refine ixJ i rfl ?_ ?_;focus omega)|refine exI hx6 ?_|refine exI hy6 ?_|refine stp ?_|with_reducible apply Z01<;>intro h)
      conv=>whnf
      refine⟨i+1,⟨hlt,by rw[hat,h1,h2,h3,h4,h5];rfl⟩,by show a.length-(i+1)<a.length-i;omega,FgL.mk0 rfl ?_⟩
      exact wks
     all_goals rw[hfalse (by simp only[*,Y0k,Y0f])]
     all_goals (try have n1:(k != k')=true:=Z0n (b:=false) (by assumption))
     all_goals (try have n1:(k != k')=false:=Z0n (b:=true) (by assumption))
     all_goals (try have n2:(r != r')=true:=Z0n (b:=false) (by assumption))
     all_goals (try have n2:(r != r')=false:=Z0n (b:=true) (by assumption))
     all_goals (try have n3:(lo != lo')=true:=Z0n (b:=false) (by assumption))
     all_goals (try have n3:(lo != lo')=false:=Z0n (b:=true) (by assumption))
     all_goals (try have n4:(od != od')=true:=Z0n (b:=false) (by assumption))
     all_goals (try have n4:(od != od')=false:=Z0n (b:=true) (by assumption))
     all_goals (try have n5:(to != to')=true:=Z0n (b:=false) (by assumption))
     all_goals (try have n5:(to != to')=false:=Z0n (b:=true) (by assumption))
     all_goals repeat' ((conv=>whnf);first|with_reducible refine exI (q2 _) ?_|(with_reducible refine ixJ i rfl ?_ ?_;focus omega)|refine exI hx6 ?_|refine exI hy6 ?_|refine stp ?_|with_reducible apply Z01<;>intro h)
     all_goals rfl
   · have e1:decide ((i:Int)<(a.length:Int))=false:=by simpa using hlt
     have hi2:i=a.length:=by have:=hi;omega
     subst hi2
     rw[Y09,hl,Y09]at hall
     rw[hall]
     repeat' ((conv=>whnf);first|refine stp ?_|with_reducible apply Z01<;>intro h)
     all_goals rfl
 · rw[Z2U _ _ _ hl]
   have e0:((a.length:Int) != (b.length:Int))=true:=Z0n (b:=false) (by simpa using (λh=>hl (by omega)))
   repeat' ((conv=>whnf);first|refine stp ?_|with_reducible apply Z01<;>intro h)
   all_goals rfl
end Go.Proofs.YthbimonbnaodkaaGreatDoor.lex
end
namespace Go.Proofs.YthbimonbnaodkaaGreatDoor.lex
open Go.Abs Go.RowKit
section
variable {gl:Z0o}
theorem Zec:∀(n:Nat)(a b:Ex),Z0a a<=n->okE a->ValOK Y00 gl 104 [.agg a.cells,.agg b.cells] (.bool (Z0O a b))
 |n,.mk o m s k,.mk o' m' s' k',h,hok=>by
  have hk:=Z0S hok
  simp only[Ex.kids,Ex.name,okN]at hk
  simp only[Z0a]at h
  obtain⟨O,hO,p1,-⟩:=fams (P:=Y00) (gl:=gl) [ZeV (g:=104) (by kernel_rfl) (λp=>p.1∈k/\p.2∈k') (λp hp=>match n,(show 1<=n by omega),h with|n+1,_,h=>Zec n p.1 p.2 (by have:=Z0h _ _ hp.1;omega) (Z0k hk.2 _ hp.1))] rfl
  have q1:∀x∈k,∀y∈k',∀H,Z02 Y00 O H 104 [.agg x.cells,.agg y.cells]=some (.bool (Z0O x y),H):=λx hx y hy=>p1 (x,y) ⟨hx,hy⟩
  clear p1
  simp only[Ex.cells,Z0O,Z5h]
  refine Z05 follows Z07 hO Tryz.func104 rfl ?_
  by_cases hh:(o==o')=true/\(m==m')=true/\(s==s')=true/\k.length=k'.length
  · obtain⟨hb1,hb2,hb3,hl⟩:=hh
    have e0:((k.length:Int)==(k'.length:Int))=true:=by rw[hl];simp
    have n1:(o != o')=false:=Z0n hb1
    have n2:(m != m')=false:=Z0n hb2
    have n3:(!(s==s'))=false:=by rw[hb3];rfl
    have n4:((k.length:Int) != (k'.length:Int))=false:=Z0n e0
    rw[hb1,hb2,hb3]
    simp only[Y0f]
    repeat' ((conv=>whnf);first|refine stp ?_|with_reducible apply Z01<;>intro h)
    conv=>whnf
    refine⟨Nat,(λi=>i<=k.length/\Z3S Z0O (k.take i) (k'.take i)=true),(λi=>[(2,.ptr 0 0),(3,.ptr 1 0),(5,.int .i64 i)]),(λ_=>[⟨true,0,0,.cells [.int .i64 o,.int .i64 m,.str s,.rs k.length 4 (exC k)] 69⟩,⟨true,1,0,.cells [.int .i64 o',.int .i64 m',.str s',.rs k'.length 4 (exC k')] 69⟩]),(λi=>k.length-i),⟨0,⟨Y0c _,rfl⟩,Y01 [0,1] rfl ?_ ⟨hbp,hbp,trivial⟩ rfl⟩,?_⟩
    ·exact wks
    rintro i ⟨hi,hall⟩
    dsimp only
    by_cases hlt:i<k.length
    · have e1:decide ((i:Int)<(k.length:Int))=true:=by simpa using hlt
      have hlt':i<k'.length:=by omega
      have hat:=Z2e Z0O k k' i hlt hlt'
      rw[hall,Y0f]at hat
      have hfalse:Z0O k[i] k'[i]=false->Z3S Z0O k k'=false:=Z2V Z0O hlt hlt'
      have hx:=ex4 k i hlt
      have hy:=ex4 k' i hlt'
      have q2:=q1 k[i] (Z03 hlt) k'[i] (Z03 hlt')
      generalize k[i]=x at *
      generalize k'[i]=y at *
      generalize Z0O x y=w at *
      obtain⟨xo,xn,xs,xk⟩:=x
      obtain⟨yo,yn,ys,yk⟩:=y
      simp only[Ex.cells]at hx hy q2
      cases w with
      |true =>
       repeat' ((conv=>whnf);first|with_reducible refine exI (q2 _) ?_|(with_reducible refine ixJ i rfl ?_ ?_;focus omega)|refine exI hx ?_|refine exI hy ?_|refine stp ?_|with_reducible apply Z01<;>intro h)
       conv=>whnf
       refine⟨i+1,⟨hlt,hat⟩,by show k.length-(i+1)<k.length-i;omega,Y01 [0,1] rfl ?_ ⟨hbp,hbp,trivial⟩ rfl⟩
       exact wks
      |false =>
       rw[hfalse rfl]
       repeat' ((conv=>whnf);first|with_reducible refine exI (q2 _) ?_|(with_reducible refine ixJ i rfl ?_ ?_;focus omega)|refine exI hx ?_|refine exI hy ?_|refine stp ?_|with_reducible apply Z01<;>intro h)
       all_goals rfl
    · have e1:decide ((i:Int)<(k.length:Int))=false:=by simpa using hlt
      have hi2:i=k.length:=by have:=hi;omega
      subst hi2
      rw[Y09,hl,Y09]at hall
      rw[hall]
      repeat' ((conv=>whnf);first|refine stp ?_|with_reducible apply Z01<;>intro h)
      all_goals rfl
  · have hw : ((o == o') && ((m == m') && ((s == s') && Z3S Z0O k k'))) = false := by
     by_cases h1:(o==o')=true
     · by_cases h2:(m==m')=true
       · by_cases h3:(s==s')=true
         ·rw[Z2U _ _ _ (λh4=>hh ⟨h1,h2,h3,h4⟩)];simp
         ·simp only[Y0l]at h3;rw[h3];simp
       ·simp only[Y0l]at h2;rw[h2];simp
     ·simp only[Y0l]at h1;rw[h1];simp
    rw[hw]
    clear hw
    have h4:k.length=k'.length ↔ ((k.length:Int)==(k'.length:Int))=true:=by rw[beq_iff_eq];omega
    rw[h4]at hh
    obtain⟨b1,hb1⟩:∃b1,(o==o')=b1:=⟨_,rfl⟩
    obtain⟨b2,hb2⟩:∃b2,(m==m')=b2:=⟨_,rfl⟩
    obtain⟨b3,hb3⟩:∃b3,(s==s')=b3:=⟨_,rfl⟩
    obtain⟨b4,hb4⟩:∃b4,((k.length:Int)==(k'.length:Int))=b4:=⟨_,rfl⟩
    rw[hb1,hb2,hb3,hb4]at hh
    have n1:=Z0n hb1
    have n2:=Z0n hb2
    have n3:(!(s==s')) = !b3:=by rw[hb3]
    have n4:=Z0n hb4
    cases b1<;>cases b2<;>cases b3<;>cases b4
    all_goals first|(exact absurd ⟨rfl,rfl,rfl,rfl⟩ hh)|simp only[Bool.not_true,Bool.not_false]at n1 n2 n3 n4
    all_goals (repeat' ((conv=>whnf);first|refine stp ?_|with_reducible apply Z01<;>intro h))
    all_goals rfl
end
end Go.Proofs.YthbimonbnaodkaaGreatDoor.lex
section
namespace Go.Proofs.YthbimonbnaodkaaGreatDoor.lex
open Go.Abs Go.RowKit Go.Flat
variable {gl:Z0o}
theorem ZjA(a b:Cd)(hok:okC a)(hs:∀i∈a.ins,∀e∈i.ex,Z0a e<=800000):ValOK Y00 gl 44 [a.av,b.av] (.bool (ZcI a b)):=by
 obtain⟨r,l⟩:=a
 obtain⟨r',l'⟩:=b
 obtain⟨hl,hx⟩:=hok
 simp only[Cd.av,ZcI]at *
 obtain⟨O,hO,p1,-⟩:=fams (P:=Y00) (gl:=gl) [ZeV (g:=104) (by kernel_rfl) (λp=>okE p.1/\Z0a p.1<=800000) (λp hp=>Zec _ p.1 p.2 (Y02 _) hp.1)] rfl
 have q1:∀x y,okE x->Z0a x<=800000->∀H,Z02 Y00 O H 104 [.agg x.cells,.agg y.cells]=some (.bool (Z0O x y),H):=λx y h1 h2=>p1 (x,y) ⟨h1,h2⟩
 clear p1
 refine Z05 follows Z07 hO Tryz.func44 rfl ?_
 by_cases hr:r=r'
 · subst hr
   have e0:(r != r)=false:=Z0n (b:=true) (by simp)
   by_cases hlen:l.length=l'.length
   · have e2:((l.length:Int) != (l'.length:Int))=false:=Z0n (b:=true) (by rw[hlen];simp)
     rw[show (r==r)=true by simp,Y0f]
     repeat' ((conv=>whnf);first|refine stp ?_|with_reducible apply Z01<;>intro h)
     conv=>whnf
     refine⟨Nat,(λk=>k<=l.length/\Z3S Z11 (l.take k) (l'.take k)=true),(λk=>[(2,.ptr 0 0),(3,.ptr 1 0),(5,.int .i64 (k:Nat))]),(λk=>[⟨true,0,0,.cells [.int .i64 r,.rs l.length 6 (inC l)] 24⟩,⟨true,1,0,.cells [.int .i64 r,.rs l'.length 6 (inC l')] 24⟩]),(λk=>l.length-k),⟨0,⟨Y0c _,rfl⟩,Y01 [0,1] rfl ?_ ⟨hbp,hbp,trivial⟩ rfl⟩,?_⟩
     ·exact wks
     rintro k ⟨hk,hall⟩
     dsimp only at hk hall⊢
     by_cases hlt:k<l.length
     · have e1:decide ((k:Int)<(l.length:Int))=true:=by simpa using hlt
       have hlt':k<l'.length:=by omega
       have hat:=Z2e Z11 l l' k hlt hlt'
       rw[hall,Y0f]at hat
       have hfalse:Z11 l[k] l'[k]=false->Z3S Z11 l l'=false:=Z2V Z11 hlt hlt'
       have hxx:=hx _ (Z03 hlt)
       have hss:=hs _ (Z03 hlt)
       have hx6:=in6 l k hlt
       have hy6:=in6 l' k hlt'
       generalize l[k]=x at *
       generalize l'[k]=y at *
       obtain⟨kd,rg,lo,od,to,ex⟩:=x
       obtain⟨kd',rg',lo',od',to',ex'⟩:=y
       simp only[icells,Z11,Z5h,exA]at *
       cases h1:(kd==kd')
       case' true=>cases h2:(rg==rg')
       case' true.true=>cases h3:(lo==lo')
       case' true.true.true=>cases h4:(od==od')
       case' true.true.true.true=>cases h5:(to==to')
       case' true.true.true.true.true=>by_cases h6:ex.length=ex'.length
       case' pos =>
        have n1:(kd != kd')=false:=Z0n (b:=true) h1
        have n2:(rg != rg')=false:=Z0n (b:=true) h2
        have n3:(lo != lo')=false:=Z0n (b:=true) h3
        have n4:(od != od')=false:=Z0n (b:=true) h4
        have n5:(to != to')=false:=Z0n (b:=true) h5
        have n6:((ex.length:Int) != (ex'.length:Int))=false:=Z0n (b:=true) (by rw[h6];simp)
        repeat' ((conv=>whnf);first|(with_reducible refine ixJ k rfl ?_ ?_;focus omega)|refine exI hx6 ?_|refine exI hy6 ?_|refine stp ?_|with_reducible apply Z01<;>intro h)
        conv=>whnf
        refine⟨Nat,(λm=>m<=ex.length/\Z3S Z0O (ex.take m) (ex'.take m)=true),(λm=>[(2,.ptr 0 0),(3,.ptr 1 0),(5,.int .i64 (k:Nat)),(6,.ptr 2 0),(7,.ptr 3 0),(8,.int .i64 (m:Nat))]),(λm=>[⟨true,0,0,.cells [.int .i64 r,.rs l.length 6 (inC l)] 24⟩,⟨true,1,0,.cells [.int .i64 r,.rs l'.length 6 (inC l')] 24⟩,⟨true,2,0,.cells [.int .i64 kd,.int .i64 rg,.int .i64 lo,.int .i64 od,.int .i64 to,.rs ex.length 4 (exC ex)] 37⟩,⟨true,3,0,.cells [.int .i64 kd',.int .i64 rg',.int .i64 lo',.int .i64 od',.int .i64 to',.rs ex'.length 4 (exC ex')] 37⟩]),(λm=>ex.length-m),⟨0,⟨Y0c _,rfl⟩,Y01 [0,1,2,3] rfl ?_ ⟨hbp,hbp,hbp,hbp,trivial⟩ rfl⟩,?_⟩
        ·exact wks
        rintro m ⟨hm,hal⟩
        dsimp only at hm hal⊢
        by_cases hmt:m<ex.length
        · have e3:decide ((m:Int)<(ex.length:Int))=true:=by simpa using hmt
          have hmt':m<ex'.length:=by omega
          have hat2:=Z2e Z0O ex ex' m hmt hmt'
          rw[hal,Y0f]at hat2
          have hf2:Z0O ex[m] ex'[m]=false->Z3S Z0O ex ex'=false:=Z2V Z0O hmt hmt'
          have hx4:=ex4 ex m hmt
          have hy4:=ex4 ex' m hmt'
          have q2:=q1 ex[m] ex'[m] (Z0k hxx.2 _ (Z03 hmt)) (hss _ (Z03 hmt))
          generalize ex[m]=x at *
          generalize ex'[m]=y at *
          generalize Z0O x y=w at *
          obtain⟨o,n,s,kk⟩:=x
          obtain⟨o',n',s',kk'⟩:=y
          simp only[Ex.cells,exA]at hx4 hy4 q2
          cases w with
          |true =>
           repeat' ((conv=>whnf);first|with_reducible refine exI (q2 _) ?_|(with_reducible refine ixJ m rfl ?_ ?_;focus omega)|refine exI hx4 ?_|refine exI hy4 ?_|refine stp ?_|with_reducible apply Z01<;>intro h)
           conv=>whnf
           refine⟨m+1,⟨hmt,hat2⟩,by show ex.length-(m+1)<ex.length-m;omega,Y01 [0,1,2,3] rfl ?_ ⟨hbp,hbp,hbp,hbp,trivial⟩ rfl⟩
           exact wks
          |false =>
           rw[hfalse (by simp only[hf2 rfl,Bool.and_false])]
           repeat' ((conv=>whnf);first|with_reducible refine exI (q2 _) ?_|(with_reducible refine ixJ m rfl ?_ ?_;focus omega)|refine exI hx4 ?_|refine exI hy4 ?_|refine stp ?_|with_reducible apply Z01<;>intro h)
           all_goals rfl
        · have e3:decide ((m:Int)<(ex.length:Int))=false:=by simpa using hmt
          have hm2:m=ex.length:=by omega
          subst hm2
          rw[Y09,h6,Y09]at hal
          repeat' ((conv=>whnf);first|refine stp ?_|with_reducible apply Z01<;>intro h)
          conv=>whnf
          refine⟨k+1,⟨hlt,by rw[hat,h1,h2,h3,h4,h5,hal];rfl⟩,by show l.length-(k+1)<l.length-k;omega,Y01 [0,1] rfl ?_ ⟨hbp,hbp,trivial⟩ rfl⟩
          exact wks
       all_goals rw[hfalse (by first|(simp only[*,Y0k,Y0f];done)|(simp only[*,Z2U _ _ _ h6,Y0k,Y0f,Bool.and_false]))]
       all_goals (try have n1:(kd != kd')=true:=Z0n (b:=false) (by assumption))
       all_goals (try have n1:(kd != kd')=false:=Z0n (b:=true) (by assumption))
       all_goals (try have n2:(rg != rg')=true:=Z0n (b:=false) (by assumption))
       all_goals (try have n2:(rg != rg')=false:=Z0n (b:=true) (by assumption))
       all_goals (try have n3:(lo != lo')=true:=Z0n (b:=false) (by assumption))
       all_goals (try have n3:(lo != lo')=false:=Z0n (b:=true) (by assumption))
       all_goals (try have n4:(od != od')=true:=Z0n (b:=false) (by assumption))
       all_goals (try have n4:(od != od')=false:=Z0n (b:=true) (by assumption))
       all_goals (try have n5:(to != to')=true:=Z0n (b:=false) (by assumption))
       all_goals (try have n5:(to != to')=false:=Z0n (b:=true) (by assumption))
       all_goals (try have n6:((ex.length:Int) != (ex'.length:Int))=true:=Z0n (b:=false) (by simpa using (λh=>h6 (by omega))))
       all_goals repeat' ((conv=>whnf);first|(with_reducible refine ixJ k rfl ?_ ?_;focus omega)|refine exI hx6 ?_|refine exI hy6 ?_|refine stp ?_|with_reducible apply Z01<;>intro h)
       all_goals rfl
     · have e1:decide ((k:Int)<(l.length:Int))=false:=by simpa using hlt
       have hk2:k=l.length:=by omega
       subst hk2
       rw[Y09,hlen,Y09]at hall
       rw[hall]
       repeat' ((conv=>whnf);first|refine stp ?_|with_reducible apply Z01<;>intro h)
       all_goals rfl
   · have e2:((l.length:Int) != (l'.length:Int))=true:=Z0n (b:=false) (by simpa using (λh=>hlen (by omega)))
     rw[Z2U _ _ _ hlen,Bool.and_false]
     repeat' ((conv=>whnf);first|refine stp ?_|with_reducible apply Z01<;>intro h)
     all_goals rfl
 · have e0:(r != r')=true:=Z0n (b:=false) (by simpa using hr)
   rw[show (r==r')=false by simpa using hr,Y0k]
   repeat' ((conv=>whnf);first|refine stp ?_|with_reducible apply Z01<;>intro h)
   all_goals rfl
end Go.Proofs.YthbimonbnaodkaaGreatDoor.lex
end
section
namespace Go.Proofs.YthbimonbnaodkaaGreatDoor.lex
open Go.Abs Go.RowKit Go.Flat
variable {gl:Z0o}
theorem ZcN{regs op num:Int}{name:List UInt8}{kids:List Ex}(h:Z0m regs (.mk op num name kids)=true):rightPL regs kids=true:=by
 rw[Zh5]at h
 simp only[Y07]at h
 exact h.2
theorem Z7t{regs:Int}:∀{l:List Ex},rightPL regs l=true->∀e∈l,Z0m regs e=true:=λ{l} h e he=>by
 rw[Z4K]at h
 exact Y0s.1 h e he
theorem Zbe(regs:Int):∀(n:Nat)(e:Ex),Z0a e<=n->okE e->Z0a e<=1048576->Z0m regs e=true->ValOK Y00 gl 84 [.agg e.cells] (.agg (Z1b e).cells)
 |n,e,h,hok,hs,hr=>by
  have hinj:∀x y:Ex,(Z0a x<n/\okE x/\Z0a x<=1048576/\Z0m regs x=true)->(Z0a y<n/\okE y/\Z0a y<=1048576/\Z0m regs y=true)->[AV.agg x.cells]=[AV.agg y.cells]->AV.agg (Z1b x).cells = .agg (Z1b y).cells:=λx y _ _ h=>by
   simp only[List.cons.injEq,AV.agg.injEq,and_true]at h
   rw[Z0M _ _ h]
  obtain⟨O,hO,p1,-⟩:=fams (P:=Y00) (gl:=gl) [{ I:=Ex,f:=84,G:=λx=>Z0a x<n/\okE x/\Z0a x<=1048576/\Z0m regs x=true,A:=λx=>[.agg x.cells],R:=λx=>.agg (Z1b x).cells,body:=(by kernel_rfl),inj:=hinj,ok:=(λx hx=>⟨by obtain⟨o,m,s,k⟩:=x;simp only[Ex.cells];rfl,match n,hx.1 with|n+1,h=>Zbe regs n x (by omega) hx.2.1 hx.2.2.1 hx.2.2.2⟩) }] rfl
  have q1:∀x,Z0a x<n->okE x->Z0a x<=1048576->Z0m regs x=true->∀H,Z02 Y00 O H 84 [.agg x.cells]=some (.agg (Z1b x).cells,H):=λx h1 h2 h3 h4=>p1 x ⟨h1,h2,h3,h4⟩
  clear p1 hinj
  have hT:Z7e Y00 35 35=some (69,4,56):=by kernel_rfl
  obtain⟨op,num,name,kids⟩:=e
  have hk:=Z0S hok
  have hrk:=Z7t (ZcN hr)
  simp only[Ex.kids,Ex.name,okN]at hk
  simp only[Z0a]at h hs
  simp only[Ex.cells,Z1b]at *
  have hcase:((op==2)=true/\(if op=2 then Z8Z name else name)=[114]++name/\name.length<=4)\/((op==2)=false/\(if op=2 then Z8Z name else name)=name):=by
   by_cases h2:op=2
   · subst h2
     rw[ZcL]at hr
     simp only[Y07,decide_eq_true_eq]at hr
     exact .inl ⟨rfl,by simp[Z8Z,hr.1],Z9R name hr.1⟩
   ·exact .inr ⟨by simpa using h2,by simp[h2]⟩
  generalize hnm:(if op=2 then Z8Z name else name)=nm at *
  clear hnm hr
  rw[Z12]
  refine Zi5 follows Z07 hO Tryz.func84 rfl ?_
  rcases hcase with ⟨o1,rfl,o3⟩|⟨o1,rfl⟩
  case inl =>
   repeat' ((conv=>whnf);first|(refine Y03 (show _<=(9223372036854775807:Nat) by simp;omega) ?_)|refine stp ?_|with_reducible apply Z01<;>intro h)
   conv=>whnf
   refine⟨Nat,(λi=>i<=kids.length),(λi=>[(1,.ptr 0 0),(2,.ptr 1 0),(3,.ptr 2 0),(21,.rs kids.length 4 (exC kids)),(22,.int .i64 kids.length),(23,.int .i64 i)]),(λi=>⟨true,0,0,.cells [.int .i64 op,.int .i64 num,.str name,.rs kids.length 4 (exC kids)] 69⟩::⟨true,1,0,.cells [.int .i64 0,.int .i64 0,.str [],.nslice] 69⟩::⟨true,2,0,.cells [.int .i64 op,.int .i64 num,.str ([114]++name),grA 3 4 (namL (kids.take i))] 69⟩::grB 3 exC 69 (namL (kids.take i))),(λi=>kids.length-i),⟨0,Y0c _,?_⟩,?_⟩
   · simp only[Y0q,namL]
     refine Y01 [0,1,2] rfl ?_ ⟨hbp,hbp,hbp,trivial⟩ rfl
     exact wks
   intro i hi
   dsimp only
   by_cases hlt:i<kids.length
   · have e1:decide ((i:Int)<(kids.length:Int))=true:=by simpa using hlt
     have hx:=ex4 kids i hlt
     have hsz:=Z0h _ _ (Z03 hlt)
     have hkl:=Z1q kids
     have q3:=q1 kids[i] (by omega) (Z0k hk.2 _ (Z03 hlt)) (by omega) (hrk _ (Z03 hlt))
     have hnx:=Z3g kids i hlt
     have hol:(namL (kids.take i)).length<=1048576:=by rw[Z12,Y0o];omega
     clear q1 hsz hrk
     generalize namL (kids.take i)=o at *
     generalize Z1b kids[i]=y at *
     generalize kids[i]=x at *
     obtain⟨xo,xn,xs,xk⟩:=x
     obtain⟨yo,yn,ys,yk⟩:=y
     simp only[Ex.cells]at hx q3
     cases o with
     |nil =>
      repeat' ((conv=>whnf);first|with_reducible refine exI (q3 _) ?_|(with_reducible refine ixJ i rfl ?_ ?_;focus omega)|refine exI hx ?_|(refine apS ?_)|refine stp ?_|with_reducible apply Z01<;>intro h)
      conv=>whnf
      refine⟨i+1,hlt,by show kids.length-(i+1)<kids.length-i;omega,?_⟩
      rw[hnx]
      refine Y01 [0,1,2,5] rfl ?_ ⟨hbp,hbp,⟨rfl,rfl,rfl,rfl,Y0i ⟨Wk.int rfl,Wk.int rfl,Y0g rfl,Y0h rfl rfl rfl (Y02 _) (Y02 _) rfl,trivial⟩⟩,hbp,trivial⟩ rfl
      exact wks
     |cons z o =>
      have hcl:=Z22 z o
      have hon:=Z6a (z::o)
      simp only[Y06]at hol
      repeat' ((conv=>whnf);first|with_reducible refine exI (q3 _) ?_|(with_reducible refine ixJ i rfl ?_ ?_;focus omega)|refine exI hx ?_|(refine apS ?_)|refine stp ?_|with_reducible apply Z01<;>intro h)
      conv=>whnf
      refine⟨i+1,hlt,by show kids.length-(i+1)<kids.length-i;omega,?_⟩
      rw[hnx]
      refine Y01 [0,1,2,6] rfl ?_ ⟨hbp,hbp,⟨rfl,rfl,rfl,rfl,Y0i ⟨Wk.int rfl,Wk.int rfl,Y0g rfl,Y0h rfl rfl (by simp) (Y02 _) (by simp) rfl,trivial⟩⟩,⟨rfl,rfl,rfl,rfl,Y05 (rest:=[]) (by show _=exC ((z::o)++[Ex.mk yo yn ys yk])++[];rw[Z4T,Y04];simp only[exC,Ex.cells,Y04]) (Z5G _)⟩,trivial⟩ rfl
      exact wks
   · have e1:decide ((i:Int)<(kids.length:Int))=false:=by simpa using hlt
     have hi2:i=kids.length:=by have:=hi;omega
     subst hi2
     have hol:(namL kids).length=kids.length:=Z12 kids
     rw[Y09]
     rw[<- hol]
     clear q1 hrk
     generalize namL kids=o at *
     cases o with
     |nil =>
      rw[<- hol]at *
      repeat' ((conv=>whnf);first|refine stp ?_|with_reducible apply Z01<;>intro h)
      all_goals (conv=>whnf)
      all_goals exact .inr wk4
     |cons z o =>
      repeat' ((conv=>whnf);first|refine stp ?_|with_reducible apply Z01<;>intro h)
      all_goals (conv=>whnf)
      all_goals exact⟨_,Z5y (n:=29) rfl rfl rfl (Z1h (n:=27) (b:=3) rfl (Z22 z o) (Z2m _)),.inl rfl⟩
  case inr =>
   repeat' ((conv=>whnf);first|(refine Y03 (show _<=(9223372036854775807:Nat) by simp;omega) ?_)|refine stp ?_|with_reducible apply Z01<;>intro h)
   conv=>whnf
   refine⟨Nat,(λi=>i<=kids.length),(λi=>[(1,.ptr 0 0),(2,.ptr 1 0),(3,.ptr 2 0),(21,.rs kids.length 4 (exC kids)),(22,.int .i64 kids.length),(23,.int .i64 i)]),(λi=>⟨true,0,0,.cells [.int .i64 op,.int .i64 num,.str nm,.rs kids.length 4 (exC kids)] 69⟩::⟨true,1,0,.cells [.int .i64 0,.int .i64 0,.str [],.nslice] 69⟩::⟨true,2,0,.cells [.int .i64 op,.int .i64 num,.str (nm),grA 3 4 (namL (kids.take i))] 69⟩::grB 3 exC 69 (namL (kids.take i))),(λi=>kids.length-i),⟨0,Y0c _,?_⟩,?_⟩
   · simp only[Y0q,namL]
     refine Y01 [0,1,2] rfl ?_ ⟨hbp,hbp,hbp,trivial⟩ rfl
     exact wks
   intro i hi
   dsimp only
   by_cases hlt:i<kids.length
   · have e1:decide ((i:Int)<(kids.length:Int))=true:=by simpa using hlt
     have hx:=ex4 kids i hlt
     have hsz:=Z0h _ _ (Z03 hlt)
     have hkl:=Z1q kids
     have q3:=q1 kids[i] (by omega) (Z0k hk.2 _ (Z03 hlt)) (by omega) (hrk _ (Z03 hlt))
     have hnx:=Z3g kids i hlt
     have hol:(namL (kids.take i)).length<=1048576:=by rw[Z12,Y0o];omega
     clear q1 hsz hrk
     generalize namL (kids.take i)=o at *
     generalize Z1b kids[i]=y at *
     generalize kids[i]=x at *
     obtain⟨xo,xn,xs,xk⟩:=x
     obtain⟨yo,yn,ys,yk⟩:=y
     simp only[Ex.cells]at hx q3
     cases o with
     |nil =>
      repeat' ((conv=>whnf);first|with_reducible refine exI (q3 _) ?_|(with_reducible refine ixJ i rfl ?_ ?_;focus omega)|refine exI hx ?_|(refine apS ?_)|refine stp ?_|with_reducible apply Z01<;>intro h)
      conv=>whnf
      refine⟨i+1,hlt,by show kids.length-(i+1)<kids.length-i;omega,?_⟩
      rw[hnx]
      refine Y01 [0,1,2,5] rfl ?_ ⟨hbp,hbp,⟨rfl,rfl,rfl,rfl,Y0i ⟨Wk.int rfl,Wk.int rfl,Y0g rfl,Y0h rfl rfl rfl (Y02 _) (Y02 _) rfl,trivial⟩⟩,hbp,trivial⟩ rfl
      exact wks
     |cons z o =>
      have hcl:=Z22 z o
      have hon:=Z6a (z::o)
      simp only[Y06]at hol
      repeat' ((conv=>whnf);first|with_reducible refine exI (q3 _) ?_|(with_reducible refine ixJ i rfl ?_ ?_;focus omega)|refine exI hx ?_|(refine apS ?_)|refine stp ?_|with_reducible apply Z01<;>intro h)
      conv=>whnf
      refine⟨i+1,hlt,by show kids.length-(i+1)<kids.length-i;omega,?_⟩
      rw[hnx]
      refine Y01 [0,1,2,6] rfl ?_ ⟨hbp,hbp,⟨rfl,rfl,rfl,rfl,Y0i ⟨Wk.int rfl,Wk.int rfl,Y0g rfl,Y0h rfl rfl (by simp) (Y02 _) (by simp) rfl,trivial⟩⟩,⟨rfl,rfl,rfl,rfl,Y05 (rest:=[]) (by show _=exC ((z::o)++[Ex.mk yo yn ys yk])++[];rw[Z4T,Y04];simp only[exC,Ex.cells,Y04]) (Z5G _)⟩,trivial⟩ rfl
      exact wks
   · have e1:decide ((i:Int)<(kids.length:Int))=false:=by simpa using hlt
     have hi2:i=kids.length:=by have:=hi;omega
     subst hi2
     have hol:(namL kids).length=kids.length:=Z12 kids
     rw[Y09]
     rw[<- hol]
     clear q1 hrk
     generalize namL kids=o at *
     cases o with
     |nil =>
      rw[<- hol]at *
      repeat' ((conv=>whnf);first|refine stp ?_|with_reducible apply Z01<;>intro h)
      all_goals (conv=>whnf)
      all_goals exact .inr wk4
     |cons z o =>
      repeat' ((conv=>whnf);first|refine stp ?_|with_reducible apply Z01<;>intro h)
      all_goals (conv=>whnf)
      all_goals exact⟨_,Z5y (n:=29) rfl rfl rfl (Z1h (n:=27) (b:=3) rfl (Z22 z o) (Z2m _)),.inl rfl⟩
end Go.Proofs.YthbimonbnaodkaaGreatDoor.lex
end
section
namespace Go.Abs
open Go.RowKit
def BH(tW tB:TypeId):List UInt8->Z00
 |[]=>[⟨true,0,0,.cells [.nptr,.nslice] tW⟩]
 |x::s=>[⟨true,0,0,.cells [.ptr 0 0,.slice 1 0 (x::s).length (x::s).length 1] tW⟩,⟨true,1,0,.cells (byt (x::s)) tB⟩]
def Zdn(tW tB:TypeId)(Hc:Z00)(b fb:Nat)(s':List UInt8):Z00:=Hc.set b ⟨true,fb,0,.cells [.ptr b 0,.slice Hc.length 0 s'.length s'.length 1] tW⟩++[⟨true,Hc.length,0,.cells (byt s') tB⟩]
def Zdm(tW tB:TypeId)(Hc:Z00)(b c fb fc:Nat)(s':List UInt8):Z00 :=
 (Hc.set b ⟨true,fb,0,.cells [.ptr b 0,.slice Hc.length 0 s'.length s'.length 1] tW⟩).set c ⟨false,fc,0,.cells [] 0⟩++[⟨true,fc,0,.cells (byt s') tB⟩]
def Zoq(tW tB:TypeId)(Hc:Z00)(b fb n:Nat)(s':List UInt8):Z00:=Hc.set b ⟨true,fb,0,.cells [.ptr b 0,.slice n 0 s'.length s'.length 1] tW⟩++[⟨true,n,0,.cells (byt s') tB⟩]
def Zop(tW tB:TypeId)(Hc:Z00)(b c fb fc n:Nat)(s':List UInt8):Z00 :=
 (Hc.set b ⟨true,fb,0,.cells [.ptr b 0,.slice n 0 s'.length s'.length 1] tW⟩).set c ⟨false,fc,0,.cells [] 0⟩++[⟨true,fc,0,.cells (byt s') tB⟩]
theorem Zpv{tW tB:TypeId}{H:Z00}{b fb:Nat}{s':List UInt8}{o:Option (AV×Z00)}{K:AV×Z00->Prop}(h:o=some (.tuple [],Zdn tW tB H b fb s'))(k:frcNP H.length λn=>K (.tuple [],Zoq tW tB H b fb n s')):∃r,o=some r/\K r:=by
 rw[Z1t]at k;exact⟨_,h,k⟩
theorem Z6e{tW tB:TypeId}{H:Z00}{b c fb fc:Nat}{s':List UInt8}{o:Option (AV×Z00)}{K:AV×Z00->Prop}(h:o=some (.tuple [],Zdm tW tB H b c fb fc s'))(k:frcNP H.length λn=>K (.tuple [],Zop tW tB H b c fb fc n s')):∃r,o=some r/\K r:=by
 rw[Z1t]at k;exact⟨_,h,k⟩
section
variable {P:Program} {gl:Z0o} {tW tB:TypeId}
theorem Z6H{s:List UInt8}{i:Nat}{o:AObj}(h:(BH tW tB s)[i]? = some o):o.sh=0/\o.fam=i/\ZcU o.body=true/\Z0J 2 (Z3c o.body [])=true/\o.alive=true:=by
 cases s with
 |nil =>
  simp only[BH]at h
  match i,h with
  |0,h=>simp at h;subst h;exact⟨rfl,rfl,rfl,rfl,rfl⟩
  |i+1,h=>simp at h
 |cons x s =>
  simp only[BH]at h
  match i,h with
  |0,h=>simp at h;subst h;exact⟨rfl,rfl,rfl,rfl,rfl⟩
  |1,h =>
   simp at h;subst h
   refine⟨rfl,rfl,?_,?_,rfl⟩
   ·exact Z5I (x::s)
   · show Z0J 2 (refsL (byt (x::s)) [])=true
     rw[Z18];rfl
  |i+2,h=>simp at h
theorem ZiA(s:List UInt8):Zbc (BH tW tB s)=true:=by
 cases s with
 |nil=>rfl
 |cons x s =>
  show (ZcU (.cells [.ptr 0 0,.slice 1 0 (x::s).length (x::s).length 1] tW)&&(noROL (byt (x::s))&&true))=true
  rw[Z5I];rfl
theorem Ziv {f b fb : Nat} {Hc : Z00} {fargs cargs : List AV} {s' : List UInt8} (hM : Zcn P gl 1 f fargs (BH tW tB []) (.tuple []) (BH tW tB s')) (hs' : s' ≠ []) (e1 : Hc[b]? = some ⟨true, fb, 0, .cells [.nptr, .nslice] tW⟩)
  (hl:Z29 [b] [fb] 0 Hc=true) (hF:Z69 Hc.length Hc=true) (ha:Z0T (Z4A [b] (Z5U [b] Hc) 30) cargs=some fargs) :
  Z10 P gl f cargs Hc (.tuple []) (Zdn tW tB Hc b fb s'):=by
 obtain⟨x,t,rfl⟩:∃x t,s'=x::t:=by cases s' with|nil=>exact absurd rfl hs'|cons x t=>exact⟨x,t,rfl⟩
 have hfam:Z0e Hc b=fb:=by simp only[Z0e,e1]
 have hp:Z0Q [b] b 0=some 0:=by simp[Z0Q]
 have h:=Z4t (m:=[b]) (n:=30) (F:=Hc.length) (Hc:=Hc) (cargs:=cargs) (bL:=.cells (byt (x::t)) tB) hM ha ?_ rfl ?_ rfl rfl (λi o ho=>⟨(Z6H ho).2.1,(Z6H ho).2.2.2.2,(Z6H ho).2.2.2.1⟩) (λi o ho=>(Z6H ho).1) (ZiA _) rfl rfl (.inl ⟨rfl,Z2b hF⟩)
 · have hu : Zay [b] (sig [b] 1 Hc.length) 1 (BH tW tB (x :: t)) 0 Hc ++ [⟨true, Hc.length, 0, Z36 (sig [b] 1 Hc.length) (.cells (byt (x :: t)) tB)⟩] = Zdn tW tB Hc b fb (x :: t) := by
    unfold Zdn
    congr 1
    · apply List.ext_getElem?
      intro i
      rw[Z4l]
      simp only[Nat.zero_add]
      by_cases hi:i=b
      · subst hi
        rw[hp,Y0D (Y0E.1 e1).1,e1]
        rfl
      · have : Z0Q [b] i 0 = none := by
         have:Y0e b i=false:=Y0t.2 λe=>hi (Y0u e).symm
         simp only[Z0Q,this];rfl
        rw[this,Y0v (λe=>hi e.symm)]
        cases Hc[i]?<;>rfl
    ·simp only[Z36,Z88]
   rw[hu]at h
   exact h
 ·exact⟨by rw[e1];exact⟨rfl,rfl,rfl,rfl,Y0i ⟨Y0g rfl,Y0g rfl,trivial⟩⟩,trivial⟩
 ·simp only[List.map,hfam];exact hl
theorem Ziu {f b c fb fc : Nat} {Hc : Z00} {fargs cargs : List AV} {s s' : List UInt8} (hM : Zcn P gl 1 f fargs (BH tW tB s) (.tuple []) (BH tW tB s')) (hs : s ≠ []) (hs' : s' ≠ []) (e2 : Hc[c]? = some ⟨true, fc, 0, .cells (byt s) tB⟩)
  (e1:Hc[b]? = some ⟨true,fb,0,.cells [.ptr b 0,.slice c 0 s.length s.length 1] tW⟩) (hn:Y0e fb fc=false) (hl:Z29 [b,c] [fb,fc] 0 Hc=true) (ha:Z0T (Z4A [b,c] (Z5U [b,c] Hc) 30) cargs=some fargs) :
  Z10 P gl f cargs Hc (.tuple []) (Zdm tW tB Hc b c fb fc s'):=by
 obtain⟨x,t,rfl⟩:∃x t,s'=x::t:=by cases s' with|nil=>exact absurd rfl hs'|cons x t=>exact⟨x,t,rfl⟩
 obtain⟨y,u,rfl⟩:∃x t,s=x::t:=by cases s with|nil=>exact absurd rfl hs|cons x t=>exact⟨x,t,rfl⟩
 have hfb:Z0e Hc b=fb:=by simp only[Z0e,e1]
 have hfc:Z0e Hc c=fc:=by simp only[Z0e,e2]
 have hne:fb≠fc:=λe=>by rw[e]at hn;simp at hn
 have hbc:b≠c:=λe=>by subst e;rw[hfb]at hfc;exact hne hfc
 have hb1:Y0e b c=false:=Y0t.2 λe=>hbc (Y0u e)
 have hp:Z0Q [b,c] b 0=some 0:=by simp[Z0Q]
 have hpc:Z0Q [b,c] c 0=some 1:=by simp only[Z0Q,hb1];simp
 have h:=Z4t (m:=[b,c]) (n:=30) (F:=fc) (Hc:=Hc) (cargs:=cargs) (bL:=.cells (byt (x::t)) tB) hM ha ?_ ?_ ?_ rfl rfl (λi o ho=>⟨(Z6H ho).2.1,(Z6H ho).2.2.2.2,(Z6H ho).2.2.2.1⟩) (λi o ho=>(Z6H ho).1) (ZiA _) rfl rfl (.inr ⟨rfl,hfc.symm⟩)
 · have hu : Zay [b, c] (sig [b, c] 1 Hc.length) 1 (BH tW tB (x :: t)) 0 Hc ++ [⟨true, fc, 0, Z36 (sig [b, c] 1 Hc.length) (.cells (byt (x :: t)) tB)⟩] = Zdm tW tB Hc b c fb fc (x :: t) := by
    unfold Zdm
    congr 1
    · apply List.ext_getElem?
      intro i
      rw[Z4l]
      simp only[Nat.zero_add]
      have lb:=(Y0E.1 e1).1
      have lc:=(Y0E.1 e2).1
      by_cases hi:i=b
      · subst hi
        rw[hp,Y0v hbc.symm,Y0D lb,e1]
        rfl
      · by_cases hj:i=c
        · subst hj
          rw[hpc,Y0D (by simpa using lc),e2]
          rfl
        · have : Z0Q [b, c] i 0 = none := by
           have h1:Y0e b i=false:=Y0t.2 λe=>hi (Y0u e).symm
           have h2:Y0e c i=false:=Y0t.2 λe=>hj (Y0u e).symm
           simp only[Z0Q,h1,h2];rfl
          rw[this,Y0v (λe=>hj e.symm),Y0v (λe=>hi e.symm)]
          cases Hc[i]?<;>rfl
    ·simp only[Z36,Z88]
   rw[hu]at h
   exact h
 ·refine⟨by rw[e1];exact⟨rfl,rfl,rfl,rfl,Y0i ⟨Y08 rfl rfl,Y0h rfl rfl rfl (Y02 _) (Y02 _) rfl,trivial⟩⟩,by rw[e2];exact⟨rfl,rfl,rfl,rfl,Y05 (rest:=[]) (by simp) (Z18 _ _)⟩,trivial⟩
 · simp only[List.map,hfb,hfc,Z0L,mem]
   have:(fb==fc)=false:=by simpa using hne
   simp only[this,Bool.or_false,Bool.not_false,Y0r]
   first|rfl|(simp;exact hne)|(simp[hn])
 ·simp only[List.map,hfb,hfc];exact hl
theorem Zos {H T : Z00} {m rest : List Nat} {b f0 f1 n : Nat} {cs : List AV} {s : List UInt8} (hs : s ≠ []) (h0 : H[0]? = some ⟨true, f0, 0, .cells [.ptr 0 0, .slice b 0 n n 1] tW⟩) (h1 : H[b]? = some ⟨true, f1, 0, .cells cs tB⟩) (m0 : m[0]? = some 0) (m1 : m[1]? = some b)
  (hn:n=s.length) (hc:cs=byt s) (hr:HpGe H m rest T 2):HpGe H m (0::b::rest) (BH tW tB s++T) 0:=by
 subst hn;subst hc
 cases s with
 |nil=>exact absurd rfl hs
 |cons x s =>
  exact⟨by rw[h0];exact⟨rfl,rfl,rfl,rfl,Y0i ⟨Y08 m0 rfl,Y0h m1 rfl rfl (Y02 _) (Y02 _) rfl,trivial⟩⟩,by rw[h1];exact⟨rfl,rfl,rfl,rfl,Y05 (rest:=[]) (by simp) (Z18 _ _)⟩,hr⟩
theorem Zn4 {H : Z00} {b f0 f1 n : Nat} {cs : List AV} {s : List UInt8} (hs : s ≠ []) (h0 : H[0]? = some ⟨true, f0, 0, .cells [.ptr 0 0, .slice b 0 n n 1] tW⟩) (h1 : H[b]? = some ⟨true, f1, 0, .cells cs tB⟩)
  (hn:n=s.length) (hc:cs=byt s):HpGe H [0,b] [0,b] (BH tW tB s) 0:=by
 have h:=Zos (m:=[0,b]) (T:=[]) (rest:=[]) hs h0 h1 rfl rfl hn hc trivial
 rwa [Y04]at h
structure BM (P:Program) (gl:Z0o) (tW tB:TypeId) where
 f:Nat
 X:Type
 G:X->Prop
 G0:X->Prop
 A:X->List AV
 T:X->List UInt8
 L:Nat
 body:Z0l P f=true
 inj:∀x y,G x->G y->A x=A y->T x=T y
 ne:∀x,G x->G0 x->T x≠[]
 ok:∀x,G x->∀s,(s=[]->G0 x)->(s++T x).length<=L->Zcn P gl 1 f (A x) (BH tW tB s) (.tuple []) (BH tW tB (s++T x))
structure BI (X:Type) where
 x:X
 s:List UInt8
 b:Nat
 c:Nat
 fb:Nat
 fc:Nat
 H:Z00
 rest:List AV
def BM.Gd(W:BM P gl tW tB)(i:BI W.X):Prop:=W.G i.x/\(i.s++W.T i.x).length<=W.L/\i.rest.getLast? = some (.ptr i.b 0)/\match i.s with
 |[]=>W.G0 i.x/\i.c=0/\i.fc=0/\i.H[i.b]? = some ⟨true,i.fb,0,.cells [.nptr,.nslice] tW⟩/\Z29 [i.b] [i.fb] 0 i.H=true/\Z69 i.H.length i.H=true/\Z0T (Z4A [i.b] (Z5U [i.b] i.H) 30) i.rest=some (W.A i.x)
 |y::u=>i.H[i.c]? = some ⟨true,i.fc,0,.cells (byt (y::u)) tB⟩/\i.H[i.b]? = some ⟨true,i.fb,0,.cells [.ptr i.b 0,.slice i.c 0 (y::u).length (y::u).length 1] tW⟩ /\
  Y0e i.fb i.fc=false/\Z29 [i.b,i.c] [i.fb,i.fc] 0 i.H=true/\Z0T (Z4A [i.b,i.c] (Z5U [i.b,i.c] i.H) 30) i.rest=some (W.A i.x)
def BM.Out(W:BM P gl tW tB)(i:BI W.X):Z00:=match i.s with
 |[]=>Zdn tW tB i.H i.b i.fb (i.s++W.T i.x)
 |_::_=>Zdm tW tB i.H i.b i.c i.fb i.fc (i.s++W.T i.x)
def BM.fam(W:BM P gl tW tB):FamM P gl where
 I:=BI W.X
 f:=W.f
 G:=W.Gd
 A:=λi=>i.rest
 H:=λi=>i.H
 R:=λ_=>.tuple []
 O:=W.Out
 body:=W.body
 inj:=by
  rintro⟨x,s,b,c,fb,fc,H,rest⟩ ⟨x',s',b',c',fb',fc',H',rest'⟩ h h' e1 e2
  simp only at e1 e2;subst e1;subst e2
  refine⟨rfl,?_⟩
  simp only[BM.Gd]at h h'
  obtain⟨g,_,hb,h⟩:=h
  obtain⟨g',_,hb',h'⟩:=h'
  rw[hb]at hb'
  simp only[Option.some.injEq,AV.ptr.injEq,and_true]at hb'
  subst hb'
  cases s with
  |nil =>
   cases s' with
   |nil =>
    obtain⟨_,rfl,rfl,a1,a2,a3,a4⟩:=h
    obtain⟨_,rfl,rfl,b1,b2,b3,b4⟩:=h'
    rw[a1]at b1
    simp only[Option.some.injEq,AObj.mk.injEq,true_and,and_true]at b1
    subst b1
    rw[a4]at b4
    have ht:=W.inj x x' g g' (Option.some.inj b4)
    simp only[BM.Out,ht]
   |cons y u =>
    obtain⟨_,_,_,a1,a2,a3,a4⟩:=h
    obtain⟨b1,b2,b3,b4,b5⟩:=h'
    rw[a1]at b2
    simp at b2
  |cons y u =>
   cases s' with
   |nil =>
    obtain⟨a1,a2,a3,a4,a5⟩:=h
    obtain⟨_,_,_,b1,b2,b3,b4⟩:=h'
    rw[a2]at b1
    simp at b1
   |cons y' u' =>
    obtain⟨a1,a2,a3,a4,a5⟩:=h
    obtain⟨b1,b2,b3,b4,b5⟩:=h'
    rw[a2]at b2
    simp only[Option.some.injEq,AObj.mk.injEq,ABody.cells.injEq,List.cons.injEq,AV.slice.injEq,true_and,and_true]at b2
    obtain⟨rfl,rfl,_⟩:=b2
    rw[a1]at b1
    simp only[Option.some.injEq,AObj.mk.injEq,ABody.cells.injEq,true_and,and_true]at b1
    obtain⟨rfl,hb⟩:=b1
    have hs:=Zdk hb
    simp only[List.cons.injEq]at hs
    obtain⟨rfl,rfl⟩:=hs
    rw[a5]at b5
    have ht:=W.inj x x' g g' (Option.some.inj b5)
    simp only[BM.Out,ht]
 ok:=by
  rintro⟨x,s,b,c,fb,fc,H,rest⟩ h
  simp only[BM.Gd]at h
  obtain⟨g,hl,_,h⟩:=h
  cases s with
  |nil =>
   obtain⟨g0,rfl,rfl,a1,a2,a3,a4⟩:=h
   exact Ziv (W.ok x g [] (λ_=>g0) hl) (by simpa using W.ne x g g0) a1 a2 a3 a4
  |cons y u =>
   obtain⟨a1,a2,a3,a4,a5⟩:=h
   exact Ziu (W.ok x g (y::u) (λe=>by cases e) hl) (by simp) (by simp) a1 a2 a3 a4 a5
theorem BM.ask0 {W : BM P gl tW tB} {O : Orc} (h : W.fam.Ask O) (x : W.X) {b fb : Nat} {H : Z00} {rest : List AV} (g : W.G x) (g0 : W.G0 x) (hl : (W.T x).length <= W.L) (hb : rest.getLast? = some (.ptr b 0)) (e1 : H[b]? = some ⟨true, fb, 0, .cells [.nptr, .nslice] tW⟩) (e2 : Z29 [b] [fb] 0 H = true) (e3 : Z69 H.length H = true)
  (e4:Z0T (Z4A [b] (Z5U [b] H) 30) rest=some (W.A x)):Z02 P O H W.f rest=some (.tuple [],Zdn tW tB H b fb (W.T x)) :=
 h ⟨x,[],b,0,fb,0,H,rest⟩ ⟨g,hl,hb,g0,rfl,rfl,e1,e2,e3,e4⟩
theorem BM.ask1 {W : BM P gl tW tB} {O : Orc} (h : W.fam.Ask O) (x : W.X) {s : List UInt8} {b c fb fc : Nat} {H : Z00} {rest : List AV} (g : W.G x) (hs : s ≠ []) (hl : (s ++ W.T x).length <= W.L) (hb : rest.getLast? = some (.ptr b 0)) (e1 : H[c]? = some ⟨true, fc, 0, .cells (byt s) tB⟩)
  (e2:H[b]? = some ⟨true,fb,0,.cells [.ptr b 0,.slice c 0 s.length s.length 1] tW⟩) (e3:Y0e fb fc=false) (e4:Z29 [b,c] [fb,fc] 0 H=true)
  (e5:Z0T (Z4A [b,c] (Z5U [b,c] H) 30) rest=some (W.A x)):Z02 P O H W.f rest=some (.tuple [],Zdm tW tB H b c fb fc (s++W.T x)):=by
 cases s with
 |nil=>exact absurd rfl hs
 |cons y u=>exact h ⟨x,y::u,b,c,fb,fc,H,rest⟩ ⟨g,hl,hb,e1,e2,e3,e4,e5⟩
end
end Go.Abs
end
namespace Go.Proofs.YthbimonbnaodkaaGreatDoor.lex
open Go.Abs Go.RowKit
section
def famI{f:Nat}(hb:Z0l Y00 f=true)(G:Int->Prop)(r:Int->AV)(h:∀n,G n->ValOK Y00 rgl f [.int .i64 n] (r n)):Fam Y00 rgl:={ I:=Int,f:=f,G:=G,A:=(λn=>[.int .i64 n]),R:=r,body:=hb,inj:=(λi j _ _ h=>by simp only[List.cons.injEq,AV.int.injEq,true_and,and_true]at h;rw[h]),ok:=(λn g=>⟨rfl,h n g⟩) }
theorem ZcX{op:Int}(h:1<=op/\op<=16):ZhL op=lev op:=if_neg (by omega)
theorem Z7h{e:Ex}(hr:Z0j e=true)(hw:ValOK Y00 rgl 91 [.agg e.cells] (.str (wrE e)))(hl:(wrE e).length<=1073741824)(n:Int):ValOK Y00 rgl 139 [.agg e.cells,.int .i64 n] (.str (brk (e.op,wrE e) n)):=by
 obtain⟨O,hO,p1,p2,-⟩:=fams (P:=Y00) (gl:=rgl) [famE (g:=91) (by kernel_rfl) (λk=>.str (wrE k)) [e] (λk hk=>by rw[Y0F.1 hk];exact hw),
  famI (f:=137) (by kernel_rfl) (λ_=>True) (λn=>.int .i64 (ZhL n)) (λn _=>Z7J n)] rfl
 have q1:∀H,Z02 Y00 O H 91 [.agg e.cells]=some (.str (wrE e),H):=p1 e (Y0F.2 rfl)
 have q2:∀H,Z02 Y00 O H 137 [.int .i64 e.op]=some (.int .i64 (ZhL e.op),H):=p2 e.op trivial
 rw[ZcX (Z6X hr)]at q2
 clear p1 p2 hw hr
 by_cases h:lev e.op<n
 · rw[show brk (e.op,wrE e) n=40::(wrE e++[41]) from if_pos h]
   obtain⟨lv,hlv⟩:∃lv,lev e.op=lv:=⟨_,rfl⟩
   rw[hlv]at q2 h
   generalize wrE e=w at *
   clear hlv
   obtain⟨op,num,name,kids⟩:=e
   simp only[Ex.op,Ex.cells]at *
   have b1:([40]:List UInt8).length+w.length<=9223372036854775807:=by simp only[Y06,Y0a];omega
   have b2:([40]++w:List UInt8).length+([41]:List UInt8).length<=9223372036854775807:=by simp only[Y0b,Y06,Y0a];omega
   have e1:decide (lv<n)=true:=by simpa using h
   refine Z05 follows Z07 hO Tryz.func139 rfl ?_
   repeat' ((conv=>whnf);first|with_reducible refine exI (q1 _) ?_|with_reducible refine exI (q2 _) ?_|(refine Y03 b1 ?_)|(refine Y03 b2 ?_)|refine stp ?_|with_reducible apply Z01<;>intro h)
   all_goals rfl
 · rw[show brk (e.op,wrE e) n=wrE e from if_neg h]
   obtain⟨lv,hlv⟩:∃lv,lev e.op=lv:=⟨_,rfl⟩
   rw[hlv]at q2 h
   generalize wrE e=w at *
   clear hlv
   obtain⟨op,num,name,kids⟩:=e
   simp only[Ex.op,Ex.cells]at *
   have e1:decide (lv<n)=false:=by simpa using h
   refine Z05 follows Z07 hO Tryz.func139 rfl ?_
   repeat' ((conv=>whnf);first|with_reducible refine exI (q1 _) ?_|with_reducible refine exI (q2 _) ?_|refine stp ?_|with_reducible apply Z01<;>intro h)
   all_goals rfl
theorem Zit(p:Int×List UInt8)(n:Int):p.2.length<=(brk p n).length:=by
 unfold brk;split
 ·simp only[Y06,Y0b,Y0a];omega
 ·exact Y02 _
theorem Z53:∀(n:Nat)(e:Ex),Z0a e<=n->Z0j e=true->rgE e->(wrE e).length<=1073741824->ValOK Y00 rgl 91 [.agg e.cells] (.str (wrE e))
 |0,e,h,_,_,_=>by have:=Z1r e;omega
 |n+1,e,h,hr,hg,hl=>by
  rcases Z3z hr with ⟨m,rfl,hm⟩|⟨w,rfl,hw⟩|⟨op,a,hop,rfl,h1⟩|⟨op,a,b,hop,rfl,h1,h2⟩
  · simp only[rgE]at hg
    obtain⟨O,hO,p1,p2,-⟩:=fams (P:=Y00) (gl:=rgl) [famI (f:=137) (by kernel_rfl) (λ_=>True) (λn=>.int .i64 (ZhL n)) (λn _=>Z7J n),famI (f:=86) (by kernel_rfl) (λn=>0<=n/\rgI n) (λn=>.str (Z1W n)) (λn g=>Zf2 n g.1 g.2)] rfl
    have q1:∀H,Z02 Y00 O H 137 [.int .i64 1]=some (.int .i64 11,H):=p1 (1:Int) trivial
    have q2:∀H,Z02 Y00 O H 86 [.int .i64 m]=some (.str (Z1W m),H):=p2 m ⟨hm,hg.1⟩
    show ValOK _ _ _ _ (.str (Z1W m))
    clear p1 p2
    generalize Z1W m=w at *
    simp only[Ex.cells]
    refine Z05 follows Z07 hO Y0w rfl ?_
    repeat' ((conv=>whnf);first|with_reducible refine exI (q1 _) ?_|with_reducible refine exI (q2 _) ?_|refine stp ?_|with_reducible apply Z01<;>intro h)
    all_goals rfl
  · obtain⟨O,hO,p1,-⟩:=fams (P:=Y00) (gl:=rgl) [famI (f:=137) (by kernel_rfl) (λ_=>True) (λn=>.int .i64 (ZhL n)) (λn _=>Z7J n)] rfl
    have q1:∀H,Z02 Y00 O H 137 [.int .i64 2]=some (.int .i64 11,H):=p1 (2:Int) trivial
    show ValOK _ _ _ _ (.str w)
    simp only[Ex.cells]
    refine Z05 follows Z07 hO Y0w rfl ?_
    repeat' ((conv=>whnf);first|with_reducible refine exI (q1 _) ?_|refine stp ?_|with_reducible apply Z01<;>intro h)
    all_goals rfl
  · simp only[rgE,rgL]at hg
    simp only[Z0a,sizeL]at h
    have h10:lev op=10:=by rcases hop with rfl|rfl<;>rfl
    have hst:wrE (.mk op 0 [] [a])=Z5T op++brk (a.op,wrE a) 10:=by
     simp only[wrE,wrL,wrC]
     rw[if_neg (by omega),if_neg (by omega)]
    rw[hst]at hl⊢
    have hbl:=Zit (a.op,wrE a) 10
    simp only[Y0b]at hl
    have hwa:=Z53 n a (by omega) h1 hg.2.1 (by simp only at hbl;omega)
    have hin:=Z7h h1 hwa (by simp only at hbl;omega) 10
    obtain⟨O,hO,p1,p2,p3,-⟩:=fams (P:=Y00) (gl:=rgl) [famI (f:=137) (by kernel_rfl) (λ_=>True) (λn=>.int .i64 (ZhL n)) (λn _=>Z7J n),famI (f:=138) (by kernel_rfl) (λ_=>True) (λn=>.str (Z5T n)) (λn _=>ZgR n),
     { I:=Unit,f:=139,G:=(λ_=>True),A:=(λ_=>[.agg a.cells,.int .i64 10]),R:=(λ_=>.str (brk (a.op,wrE a) 10)),body:=(by kernel_rfl),inj:=(λ_ _ _ _ _=>rfl),ok:=(λ_ _=>⟨by have:=Z1l a;simpa[refsL,Z1o]using this,hin⟩) }] rfl
    have q1:∀H,Z02 Y00 O H 137 [.int .i64 op]=some (.int .i64 (ZhL op),H):=p1 op trivial
    rw[ZcX (by omega),h10]at q1
    have q2:∀H,Z02 Y00 O H 138 [.int .i64 op]=some (.str (Z5T op),H):=p2 op trivial
    have q3:∀H,Z02 Y00 O H 139 [.agg a.cells,.int .i64 10]=some (.str (brk (a.op,wrE a) 10),H):=p3 () trivial
    have hx:=ex4 [a] 0 (by simp)
    simp only[List.getElem_cons_zero]at hx
    clear p1 p2 p3 hin hwa hbl hst
    generalize Z5T op=w at *
    generalize brk (a.op,wrE a) 10=v at *
    have b1:w.length+v.length<=9223372036854775807:=by omega
    simp only[Ex.cells]
    generalize exC [a]=ks at *
    obtain⟨ao,an,as_,ak⟩:=a
    simp only[Ex.cells]at *
    refine Z05 follows Z07 hO Y0w rfl ?_
    repeat' ((conv=>whnf);first|with_reducible refine exI (q1 _) ?_|with_reducible refine exI (q2 _) ?_|with_reducible refine exI (q3 _) ?_|refine exI hx ?_|(with_reducible refine Y03 b1 ?_)|refine stp ?_|with_reducible apply Z01<;>intro h)
    all_goals rfl
  · simp only[rgE,rgL]at hg
    simp only[Z0a,sizeL]at h
    have hl1:1<=lev op/\lev op<=9:=by
     rcases Z28 op with hout|rfl|rfl|rfl|rfl|rfl|rfl|rfl|rfl|rfl|rfl|rfl|rfl|rfl|rfl|rfl|rfl
     any_goals omega
     all_goals decide
    have hst:wrE (.mk op 0 [] [a,b])=brk (a.op,wrE a) (lev op)++(32::(Z5T op++(32::brk (b.op,wrE b) (lev op+1)))):=by
     simp only[wrE,wrL,wrC]
     rw[if_neg (by omega),if_neg (by omega)]
    rw[hst]at hl⊢
    have hbla:=Zit (a.op,wrE a) (lev op)
    have hblb:=Zit (b.op,wrE b) (lev op+1)
    simp only[Y0b,Y06]at hl
    simp only at hbla hblb
    have hia:=Z7h h1 (Z53 n a (by omega) h1 hg.2.1 (by omega)) (by omega) (lev op)
    have hib:=Z7h h2 (Z53 n b (by omega) h2 hg.2.2.1 (by omega)) (by omega) (lev op+1)
    obtain⟨O,hO,p1,p2,p3,-⟩:=fams (P:=Y00) (gl:=rgl) [famI (f:=137) (by kernel_rfl) (λ_=>True) (λn=>.int .i64 (ZhL n)) (λn _=>Z7J n),famI (f:=138) (by kernel_rfl) (λ_=>True) (λn=>.str (Z5T n)) (λn _=>ZgR n),
     { I := Ex × Int, f := 139, G := (fun x => (x.1 = a /\ x.2 = lev op) \/ (x.1 = b /\ x.2 = lev op + 1)), A := (fun x => [.agg x.1.cells, .int .i64 x.2]), R := (fun x => .str (brk (x.1.op, wrE x.1) x.2)), body := (by kernel_rfl), inj := (fun x y _ _ h => by
        simp only[List.cons.injEq,AV.int.injEq,true_and,and_true]at h
        have:=Z3I (a:=x.1) (b:=y.1) (by rw[h.1])
        rw[this,h.2]),ok:=(λx g=>⟨by have:=Z1l x.1;simpa[refsL,Z1o]using this,by rcases g with ⟨g1,g2⟩|⟨g1,g2⟩;rw[g1,g2];exact hia;rw[g1,g2];exact hib⟩) }] rfl
    have q1:∀H,Z02 Y00 O H 137 [.int .i64 op]=some (.int .i64 (ZhL op),H):=p1 op trivial
    rw[ZcX (by omega)]at q1
    have q2:∀H,Z02 Y00 O H 138 [.int .i64 op]=some (.str (Z5T op),H):=p2 op trivial
    have q3:∀H,Z02 Y00 O H 139 [.agg a.cells,.int .i64 (lev op)]=some (.str (brk (a.op,wrE a) (lev op)),H):=p3 (a,lev op) (.inl ⟨rfl,rfl⟩)
    have q4:∀H,Z02 Y00 O H 139 [.agg b.cells,.int .i64 (lev op+1)]=some (.str (brk (b.op,wrE b) (lev op+1)),H):=p3 (b,lev op+1) (.inr ⟨rfl,rfl⟩)
    have hx:=ex4 [a,b] 0 (by simp)
    have hy:=ex4 [a,b] 1 (by simp)
    simp only[List.getElem_cons_zero,List.getElem_cons_succ]at hx hy
    clear p1 p2 p3 hia hib hbla hblb
    generalize brk (a.op,wrE a) (lev op)=va at *
    generalize brk (b.op,wrE b) (lev op+1)=vb at *
    obtain⟨lv,hlv⟩:∃lv,lev op=lv:=⟨_,rfl⟩
    rw[hlv]at q1 q3 q4 hl1
    clear hlv hst
    have w1:IntKind.i64.wrap (lv+1)=lv+1:=Z2r (by omega) (by omega)
    have f1:(lv==11)=false:=by simp;omega
    have f2:(lv==10)=false:=by simp;omega
    generalize Z5T op=w at *
    have hfin:va++[32]++w++[32]++vb=va++(32::(w++(32::vb))):=by simp
    rw[<- hfin]
    simp only[Ex.cells]
    generalize exC [a,b]=ks at *
    obtain⟨ao,an,as_,ak⟩:=a
    obtain⟨bo,bn,bs_,bk⟩:=b
    simp only[Ex.cells]at *
    refine Z05 follows Z07 hO Y0w rfl ?_
    repeat' ((conv=>whnf);first|with_reducible refine exI (q1 _) ?_|with_reducible refine exI (q2 _) ?_|with_reducible refine exI (q3 _) ?_|with_reducible refine exI (q4 _) ?_|(with_reducible refine exW w1 ?_)|refine exI hx ?_|refine exI hy ?_|(refine Y03 (show List.length _+List.length _<=9223372036854775807 from ?_) ?_;(exact leS))|refine stp ?_|with_reducible apply Z01<;>intro h)
    all_goals rfl
end
end Go.Proofs.YthbimonbnaodkaaGreatDoor.lex
section
namespace Go.Proofs.YthbimonbnaodkaaGreatDoor.lex
open Go.Abs Go.RowKit Go.Flat
theorem Zkh{gl:Z0o}(n:Nat)(hn:n<100):ValOK Y00 gl 80 [.int .i64 n] (.str (Z3V n)):=by
 obtain⟨O,hO,r1⟩:=Zl0 (gl:=gl) n hn
 have e1:decide ((0:Int)<=(n:Int))=true:=by simp
 have e2:decide ((n:Int)<100)=true:=by simp;omega
 refine Z32 (λg=>Y0e g 198) 3 follows Z07 hO Tryz.func80 rfl ?_
 repeat' ((conv=>whnf);first|with_reducible refine exI (r1 _) ?_|refine stp ?_|with_reducible apply Z01<;>intro h)
 all_goals rfl
theorem ZmB(n:Int)(h0:0<=n)(h1:rgI n):ValOK Y00 runLives.gl 80 [.int .i64 n] (.str (Z1W n)):=by
 obtain⟨u,rfl⟩:∃u:Nat,n=u:=⟨n.toNat,by omega⟩
 have h2:u<=9223372036854775807:=by have:=h1.2;omega
 show ValOK Y00 runLives.gl 80 [.int .i64 u] (.str (Z3V (u:Int).toNat))
 rw[Y0G]
 by_cases hs:u<100
 ·exact Zkh u hs
 · obtain⟨O,hO,q1,-⟩:=fams (P:=Y00) (gl:=runLives.gl) [{ I:=Unit,f:=166,G:=(λ_=>True),A:=(λ_=>[.int .i64 u,.int .i64 10]),R:=(λ_=>.str (Z3V u)),body:=(by kernel_rfl),inj:=(λ_ _ _ _ _=>rfl),ok:=(λ_ _=>⟨rfl,Zll u (by omega) h2⟩) }] rfl
   have r1:∀H,Z02 Y00 O H 166 [.int .i64 u,.int .i64 10]=some (.str (Z3V u),H):=q1 () trivial
   clear q1
   refine Z32 (λg=>Y0e g 166) 2 follows Z07 hO Tryz.func80 rfl ?_
   repeat' ((conv=>whnf);first|with_reducible refine exI (r1 _) ?_|refine stp ?_|with_reducible apply Z01<;>intro h)
   all_goals rfl
def Z54(k:Int):List UInt8:=if k=1 then [115,101,116] else if k=2 then [108,111,97,100] else if k=3 then [115,116,111,114,101] else if k=4 then [99,97,115] else if k=5 then [97,100,100] else if k=6 then [115,119,97,112] else if k=7 then [102,101,110,99,101] else if k=8 then [97,115,115,117,109,101] else if k=9 then [97,115,115,101,114,116] else if k=10 then [106,117,109,112] else if k=11 then [98,114,97,110,99,104] else if k=12 then [98,111,117,110,100] else [100,111,110,101]
theorem Z9r(k:Int):(Z54 k).length<=10:=by
 have hi:∀(c:Prop)[Decidable c](a b:List UInt8),a.length<=10->b.length<=10->(if c then a else b).length<=10:=λc _ a b h1 h2=>by split<;>assumption
 unfold Z54
 repeat' (first|exact hi _ _ _ (by decide) (by decide)|refine hi _ _ _ (by decide) ?_)
theorem ZcY{k:Int}(h:1<=k/\k<=13):k=1\/k=2\/k=3\/k=4\/k=5\/k=6\/k=7\/k=8\/k=9\/k=10\/k=11\/k=12\/k=13:=by omega
theorem ZhQ{gl:Z0o}(k:Int)(h:1<=k/\k<=13):ValOK Y00 gl 81 [.int .i64 k] (.str (Z54 k)):=by
 rcases ZcY h with rfl|rfl|rfl|rfl|rfl|rfl|rfl|rfl|rfl|rfl|rfl|rfl|rfl
 all_goals refine Z05 follows Z07 Z06 Tryz.func81 rfl ?_
 all_goals repeat' ((conv=>whnf);first|refine stp ?_|with_reducible apply Z01<;>intro h)
 all_goals rfl
theorem ZfB{gl:Z0o}(k:Int)(h:1<=k/\k<=13):ValOK Y00 gl 87 [.int .i64 k] (.str (Z54 k)):=by
 rcases ZcY h with rfl|rfl|rfl|rfl|rfl|rfl|rfl|rfl|rfl|rfl|rfl|rfl|rfl
 all_goals refine Z05 follows Z07 Z06 Tryz.func87 rfl ?_
 all_goals repeat' ((conv=>whnf);first|refine stp ?_|with_reducible apply Z01<;>intro h)
 all_goals rfl
abbrev tS:TypeId:=116
def Z1T(has:Bool)(l:List (List UInt8)):List UInt8:=if has then l.flatten else []
theorem ZlK (has : Bool) (l : List (List UInt8)) (s : List UInt8) (hl : l.length <= 100) (hne : l.flatten ≠ []) (h0 : s = [] -> has = true) (hf : l.flatten.length <= 1048576) (hb : (s ++ Z1T has l).length <= 1073741824) :
  Zcn Y00 runLives.gl 1 77 [.bool has,.rs l.length 1 (l.map AV.str),.ptr 0 0] (BH tS tB s) (.tuple []) (BH tS tB (s++Z1T has l)):=by
 obtain⟨O,hO,p1,-⟩:=fams (P:=Y00) (gl:=runLives.gl) [{ I:=Unit,f:=79,G:=λ_=>True,A:=λ_=>[.rs l.length 1 (l.map AV.str),.str []],R:=λ_=>.str l.flatten,body:=(by kernel_rfl),inj:=(λ_ _ _ _ _=>rfl),ok:=(λ_ _=>⟨rfl,Zpb l hf (by omega) hne⟩) }] rfl
 have q1:∀H,Z02 Y00 O H 79 [.rs l.length 1 (l.map AV.str),.str []]=some (.str l.flatten,H):=p1 () trivial
 clear p1
 unfold Z1T at *
 generalize l.flatten=w at *
 generalize l.map AV.str=ls at *
 obtain⟨w0,w1,rfl⟩:∃c t,w=c::t:=by cases w with|nil=>exact absurd rfl hne|cons c t=>exact⟨c,t,rfl⟩
 refine Za9 (λg=>Y0e g 79) 3 follows Z07 hO Tryz.func77 rfl ?_
 cases has with
 |false =>
  obtain⟨c,t,rfl⟩:∃c t,s=c::t:=by cases s with|nil=>exact absurd (h0 rfl) (by decide)|cons c t=>exact⟨c,t,rfl⟩
  simp only[BH,if_false,Bool.false_eq_true,Y04]
  repeat' ((conv=>whnf);first|refine stp ?_|with_reducible apply Z01<;>intro h)
  conv=>whnf
  exact⟨[0,1],rfl,Zn4 (s:=c::t) (Y0m _ _) rfl rfl rfl rfl,rfl,Y0g rfl⟩
 |true =>
  simp only[if_true]at hb⊢
  cases s with
  |nil =>
   simp only[BH,Y0A]at hb⊢
   repeat' ((conv=>whnf);first|with_reducible refine exI (q1 _) ?_|refine exI (Zan apB (xs:=byt (w0::w1)) (n:=(w0::w1).length) rfl (by simp) ⟨by simp at hb⊢;omega,by simp at hb⊢;omega⟩) ?_|refine stp ?_|with_reducible apply Z01<;>intro h)
   conv=>whnf
   exact⟨[0,1],rfl,Zn4 (s:=w0::w1) (Y0m _ _) rfl rfl rfl rfl,rfl,Y0g rfl⟩
  |cons c t =>
   simp only[BH,Y0C]at hb⊢
   repeat' ((conv=>whnf);first|with_reducible refine exI (q1 _) ?_|refine exI (Z1m apB (xs:=byt (w0::w1)) (n:=(w0::w1).length) (cs:=byt (c::t)) rfl rfl (Z4U (by simp[ABody.len])) ((Z4g _).trans (Nat.mul_one _).symm) (Z89 _) (by simp) ⟨by simp at hb⊢;omega,by simp at hb⊢;omega⟩) ?_|refine stp ?_|with_reducible apply Z01<;>intro h)
   conv=>whnf
   exact⟨[0,2],rfl,Zn4 (s:=c::(t++w0::w1)) (Y0m _ _) rfl rfl (by simp;omega) (by rw[<- Z8a];rfl),rfl,Y0g rfl⟩
def bmPut:BM Y00 runLives.gl tS tB where
 f:=77
 X:=Bool×List (List UInt8)
 G:=λx=>x.2.length<=100/\x.2.flatten≠[]/\x.2.flatten.length<=1048576
 G0:=λx=>x.1=true
 A:=λx=>[.bool x.1,.rs x.2.length 1 (x.2.map AV.str),.ptr 0 0]
 T:=λx=>Z1T x.1 x.2
 L:=1073741824
 body:=by kernel_rfl
 inj:=by
  rintro x y _ _ h
  simp only[List.cons.injEq,AV.rs.injEq,AV.bool.injEq,and_true,true_and]at h
  rw[h.1,Z9A h.2.2]
 ne:=by
  rintro x hx h0
  unfold Z1T
  rw[if_pos h0];exact hx.2.1
 ok:=λx g s h0 hb=>ZlK x.1 x.2 s g.1 g.2.1 h0 g.2.2 hb
theorem Z5V {O : Orc} (h : bmPut.fam.Ask O) (has : Bool) (l : List (List UInt8)) {t : List UInt8} (ht : Z1T has l = t) (g : l.length <= 100 /\ l.flatten ≠ [] /\ l.flatten.length <= 1048576) {s : List UInt8} {b c fb fc : Nat} {H : Z00} {rest : List AV} (hs : s ≠ []) (hb : (s ++ t).length <= 1073741824) (hl : rest.getLast? = some (.ptr b 0))
  (e2:H[b]? = some ⟨true,fb,0,.cells [.ptr b 0,.slice c 0 s.length s.length 1] tS⟩) (e1:H[c]? = some ⟨true,fc,0,.cells (byt s) tB⟩) (e3:Y0e fb fc=false) (e4:Z29 [b,c] [fb,fc] 0 H=true) (e5:Z0T (Z4A [b,c] (Z5U [b,c] H) 30) rest=some [.bool has,.rs l.length 1 (l.map AV.str),.ptr 0 0]) :
  Z02 Y00 O H 77 rest=some (.tuple [],Zdm tS tB H b c fb fc (s++t)):=by
 subst ht;exact BM.ask1 (W:=bmPut) h (has,l) g hs hb hl e1 e2 e3 e4 e5
theorem ZoS {O : Orc} (h : bmPut.fam.Ask O) (l : List (List UInt8)) {t : List UInt8} (ht : l.flatten = t) (g : l.length <= 100 /\ l.flatten ≠ [] /\ l.flatten.length <= 1048576) {b fb : Nat} {H : Z00} {rest : List AV} (hb : t.length <= 1073741824) (hl : rest.getLast? = some (.ptr b 0))
  (e1:H[b]? = some ⟨true,fb,0,.cells [.nptr,.nslice] tS⟩) (e2:Z29 [b] [fb] 0 H=true) (e3:Z69 H.length H=true) (e4:Z0T (Z4A [b] (Z5U [b] H) 30) rest=some [.bool true,.rs l.length 1 (l.map AV.str),.ptr 0 0]) :
  Z02 Y00 O H 77 rest=some (.tuple [],Zdn tS tB H b fb t):=by
 subst ht;exact BM.ask0 (W:=bmPut) h (true,l) g rfl hb hl e1 e2 e3 e4
def Z37:List Ex->List UInt8
 |[]=>[]
 |e::l=>32::40::(wrE (Z1b e)++(41::Z37 l))
theorem Z7b:∀a b:List Ex,Z37 (a++b)=Z37 a++Z37 b
 |[],b=>rfl
 |e::a,b=>by simp only[Y0C,Z37,Z7b a b,Y0d]
theorem Z80{l:List Ex}{m:Nat}(h:m<l.length):Z37 (l.take (m+1))=Z37 (l.take m)++[[32,40],wrE (Z1b l[m]),[41]].flatten:=by
 rw[List.take_succ_eq_append_getElem h,Z7b]
 simp[Z37]
def Zm3(i:Ins):List UInt8:=Z1T (Z0R i.kind) [[32,114],Z1W i.reg]
def Zmo(i:Ins):List UInt8:=Z1T (Z3o i.kind) [[32,120],Z1W i.loc]
def orT(i:Ins):List UInt8:=Z1T (Z5p i.kind) [[32],Zb5 i.order]
def toT(i:Ins):List UInt8:=Z1T (toB i.kind) [[32,64],Z1W i.to]
def ZjO(k:Nat)(i:Ins):List UInt8:=[Z3V k,[32],Z54 i.kind].flatten
def Zo3(k:Nat)(i:Ins):List UInt8:=ZjO k i++Zm3 i++Zmo i++orT i++toT i
def Zkj(k:Nat)(i:Ins):List UInt8:=Zo3 k i++Z37 i.ex++[10]
def cdT(l:List Ins):Nat->List UInt8
 |0=>[]
 |n+1=>cdT l n++Zkj n (Z6O l n)
theorem Zmf(k:Nat)(i:Ins):ZjO k i≠[]:=by
 have:=Zdf k
 unfold ZjO
 simp[this]
theorem Zoo(l:List Ins)(n:Nat):cdT l (n+1)≠[]:=by
 simp only[cdT,Zkj]
 simp
end Go.Proofs.YthbimonbnaodkaaGreatDoor.lex
end
section
namespace Go.Proofs.YthbimonbnaodkaaGreatDoor.lex
open Go.Abs Go.RowKit Go.Flat
structure Tld (c:Cd):Prop where
 ok:okC c
 rg:∀i∈c.ins,∀e∈i.ex,rgE e
 sz:∀i∈c.ins,∀e∈i.ex,Z0a e<=800000
 wr:∀i∈c.ins,∀e∈i.ex,(wrE (Z1b e)).length<=100000
 few:∀n,n<=c.ins.length->(cdT c.ins n).length<=1000000000
mutual
theorem Z7E:∀e:Ex,rgE e->rgE (Z1b e)
 | .mk op num name kids,h=>by
  simp only[rgE,Z1b]at h⊢
  exact⟨h.1,namL_rg kids h.2⟩
theorem namL_rg:∀l:List Ex,rgL l->rgL (namL l)
 |[],_=>trivial
 |e::l,h=>by
  simp only[rgL,namL]at h⊢
  exact⟨Z7E e h.1,namL_rg l h.2⟩
end
theorem Zn3{c:Cd}(h:Zgg c=false):∀i∈c.ins,∀e∈i.ex,Z4X e=false:=λi hi e he=>by
 unfold Zgg at h
 have h1:=List.any_eq_false.1 h i hi
 simp only[Y0l]at h1
 have h2:=List.any_eq_false.1 h1 e he
 simpa using h2
theorem Fine.check{c:Cd}(h:Fine c):∀i∈c.ins,∀e∈i.ex,Z0m c.regs e=true/\Z0K (Z1b e)=0:=λi hi e he=>by
 have h1:=Z7t (Z82 (h.right i hi)) e he
 refine⟨h1,?_⟩
 have h2:=ZbQ (Zn3 h.big i hi e he)
 rw[Z5Y,Y07]at h1
 rw[h1.1]at h2
 simpa using h2
theorem tfg{t0 tm:Tr}{H:Z00}{l:List (Nat×AV)}{b c fb fc:Nat}{s1 s:List UInt8}(h:Ze1 t0 tm=true)(e:s1=s)(hs:s≠[])(h0:H[b]? = some ⟨true,fb,0,.cells [.ptr b 0,.slice c 0 s1.length s1.length 1] tS⟩)(h1:H[c]? = some ⟨true,fc,0,.cells (byt s1) tB⟩)(hn:Y0e fb fc=false)(hsl:SlotsGe [b,c] tm l):FgL t0 tm H l (BH tS tB s):=by
 subst e
 obtain⟨x,r,rfl⟩:∃x r,s1=x::r:=by cases s1 with|nil=>exact absurd rfl hs|cons x r=>exact⟨x,r,rfl⟩
 refine Y01 [b,c] h hsl ⟨Z13 h0 ⟨rfl,rfl,rfl,rfl,Y0i ⟨Y08 rfl rfl,Y0h rfl rfl rfl (Y02 _) (Y02 _) rfl,trivial⟩⟩,Z13 h1 ⟨rfl,rfl,rfl,rfl,Y05 (rest:=[]) (by rw[Y04]) (Z18 _ _)⟩,trivial⟩ ?_
 have hne:fb≠fc:=λe=>by rw[e]at hn;simp at hn
 simp only[List.map,Z0e,h0,h1,Z0L,mem]
 first|(simp[hn];done)|(simp;exact hne)
theorem Zbq(c:Cd)(ht:Tld c)(hc:Z2o c=0):ValOK Y00 runLives.gl 29 [c.av] (.tuple [.str (cdT c.ins c.ins.length),.int .i64 0]):=by
 have hck:=Z14 c ht.ok
 rw[hc]at hck
 have hfine:=Z2j hc
 have hfc:=hfine.check
 have hrt:=hfine.right
 have hreg:=hfine.reg1
 obtain⟨regs,l⟩:=c
 simp only[Cd.av]at *
 have hp:=hfine.good.pos
 have hf:=hfine.good.few
 simp only at hp hf hreg
 have hx2:=ht.ok.2
 have htg:=ht.rg
 have hsz:=ht.sz
 have hwr:=ht.wr
 have hfew:=ht.few
 simp only at hx2 htg hsz hwr hfew
 obtain⟨O,hO,⟨p1,-⟩,r1,r2,r3,r4,r5,r6,-⟩:=Z5E (P:=Y00) (gl:=runLives.gl) [bmPut.fam] [{ I:=Unit,f:=31,G:=λ_=>True,A:=λ_=>[.agg [.int .i64 regs,.rs l.length 6 (inC l)]],R:=λ_=>.int .i64 0,body:=(by kernel_rfl),inj:=λ_ _ _ _ _=>rfl,ok:=λ_ _=>⟨rfl,hck⟩ },
  { I:=Int,f:=80,G:=λn=>0<=n/\rgI n,A:=λn=>[.int .i64 n],R:=λn=>.str (Z1W n),body:=(by kernel_rfl),inj:=(λi j _ _ h=>by simp only[List.cons.injEq,AV.int.injEq,true_and,and_true]at h;rw[h]),ok:=(λn h=>⟨rfl,ZmB n h.1 h.2⟩) },
  { I:=Int,f:=81,G:=λn=>1<=n/\n<=13,A:=λn=>[.int .i64 n],R:=λn=>.str (Z54 n),body:=(by kernel_rfl),inj:=(λi j _ _ h=>by simp only[List.cons.injEq,AV.int.injEq,true_and,and_true]at h;rw[h]),ok:=(λn h=>⟨rfl,ZhQ n h⟩) },
  Zoa,
  { I:=Ex,f:=84,G:=λe=>okE e/\Z0a e<=1048576/\Z0m regs e=true,A:=λe=>[.agg e.cells],R:=λe=>.agg (Z1b e).cells,body:=(by kernel_rfl),inj:=(λx y _ _ h=>by simp only[List.cons.injEq,AV.agg.injEq,and_true]at h;rw[Z0M _ _ h]),ok:=(λe h=>⟨Z1l e,Zbe regs _ e (Y02 _) h.1 h.2.1 h.2.2⟩) },
  { I:=Ex,f:=83,G:=λe=>okE e/\rgE e/\Z0a e<=1048576/\Z0K e=0/\(wrE e).length<=1073741824,A:=λe=>[.agg e.cells],R:=λe=>.tuple [.str (wrE e),.int .i64 0],body:=(by kernel_rfl),inj:=(λx y _ _ h=>by simp only[List.cons.injEq,AV.agg.injEq,and_true]at h;rw[Z0M _ _ h]),ok:=(λe h=>⟨Z1l e,by have:=ZkB e h.1 h.2.1 h.2.2.1 (λ_=>h.2.2.2.2);rw[h.2.2.2.1,if_pos rfl]at this;exact this⟩) }] rfl
 have q1:∀H,Z02 Y00 O H 31 [.agg [.int .i64 regs,.rs l.length 6 (inC l)]]=some (.int .i64 0,H):=r1 () trivial
 have q2:∀n,0<=n->rgI n->∀H,Z02 Y00 O H 80 [.int .i64 n]=some (.str (Z1W n),H):=λn h1 h2=>r2 n ⟨h1,h2⟩
 have q3:∀n,1<=n/\n<=13->∀H,Z02 Y00 O H 81 [.int .i64 n]=some (.str (Z54 n),H):=r3
 have q4:∀n H,Z02 Y00 O H 82 [.int .i64 n]=some (.str (Zb5 n),H):=λn=>r4 n trivial
 have q5:∀e,okE e->Z0a e<=1048576->Z0m regs e=true->∀H,Z02 Y00 O H 84 [.agg e.cells]=some (.agg (Z1b e).cells,H):=λe h1 h2 h3=>r5 e ⟨h1,h2,h3⟩
 have q6:∀e,okE e->rgE e->Z0a e<=1048576->Z0K e=0->(wrE e).length<=1073741824->∀H,Z02 Y00 O H 83 [.agg e.cells]=some (.tuple [.str (wrE e),.int .i64 0],H):=λe h1 h2 h3 h4 h5=>r6 e ⟨h1,h2,h3,h4,h5⟩
 clear r1 r2 r3 r4 r5 r6 hck hc
 refine Z32 isX 1 follows Z07 hO Tryz.func29 rfl ?_
 repeat' ((conv=>whnf);first|refine exI (q1 _) ?_|refine stp ?_|with_reducible apply Z01<;>intro h)
 conv=>whnf
 refine⟨Nat,(λk=>k<=l.length),(λk=>[(5,.ptr 0 0),(6,.func (.func 77) [] [.ptr 0 0]),(21,.rs l.length 6 (inC l)),(22,.int .i64 l.length),(23,.int .i64 (k:Nat))]),(λk=>BH tS tB (cdT l k)),(λk=>l.length-k),⟨0,Y0c _,?_⟩,?_⟩
 · show FgL _ _ _ _ (BH tS tB [])
   refine Y01 [1] rfl ?_ ⟨⟨rfl,rfl,rfl,rfl,Y0i ⟨Y0g rfl,Y0g rfl,trivial⟩⟩,trivial⟩ rfl
   refine Y03 (Y08 rfl rfl) (Y03 (Wk.func trivial ⟨Y08 rfl rfl,trivial⟩) ?_)
   exact wks
 intro k hk
 dsimp only at hk⊢
 by_cases hlt:k<l.length
 · have e1:decide ((k:Int)<(l.length:Int))=true:=by simpa using hlt
   have hx6:=in6 l k hlt
   have hrk:=hrt _ (Z03 hlt)
   have hfk:=hfc _ (Z03 hlt)
   have hxk:=hx2 _ (Z03 hlt)
   have htk:=htg _ (Z03 hlt)
   have hsk:=hsz _ (Z03 hlt)
   have hwk:=hwr _ (Z03 hlt)
   have hfw:=hfew (k+1) hlt
   have hins:cdT l (k+1)=cdT l k++Zkj k l[k]:=by rw[<- Z15 hlt];rfl
   rw[hins]at hfw
   generalize l[k]=i at *
   obtain⟨kd,rg,lo,od,to,ex⟩:=i
   simp only[icells,exA]at *
   simp only[Z0y,Y07,decide_eq_true_eq]at hrk
   obtain⟨hkd,g1,g2,g3,g4,g5,g6⟩:=hrk
   have ra:0<=rg/\rg<4000:=by
    unfold inW at g1;split at g1
    ·simp only[Y07,decide_eq_true_eq]at g1;omega
    ·have g1:=eq_of_beq g1;omega
   have rb:0<=lo/\lo<4000:=by
    unfold inW at g2;split at g2
    ·simp only[Y07,decide_eq_true_eq]at g2;omega
    ·have g2:=eq_of_beq g2;omega
   have rd:0<=to/\to<=4000:=by
    unfold inW at g4;split at g4
    ·simp only[Y07,decide_eq_true_eq]at g4;omega
    ·have g4:=eq_of_beq g4;omega
   have qn:=q2 (k:Nat) (by omega) ⟨by omega,by omega⟩
   have qa:=q2 rg ra.1 ⟨by omega,by omega⟩
   have qb:=q2 lo rb.1 ⟨by omega,by omega⟩
   have qd:=q2 to rd.1 ⟨by omega,by omega⟩
   have qw:=q3 kd hkd
   have qo:=q4 od
   obtain⟨K,rfl⟩:∃K:Nat,kd=K:=⟨kd.toNat,by omega⟩
   have hsh:=Ze7 K (by omega) (by omega)
   unfold ZgN at hsh
   have hT0:ZjO k ⟨K,rg,lo,od,to,ex⟩=[Z1W (k:Nat),[32],Z54 K].flatten:=rfl
   have hT1:Zm3 ⟨K,rg,lo,od,to,ex⟩=Z1T (Z0R K) [[32,114],Z1W rg]:=rfl
   have hT2:Zmo ⟨K,rg,lo,od,to,ex⟩=Z1T (Z3o K) [[32,120],Z1W lo]:=rfl
   have hT3:orT ⟨K,rg,lo,od,to,ex⟩=Z1T (Z5p K) [[32],Zb5 od]:=rfl
   have hT4:toT ⟨K,rg,lo,od,to,ex⟩=Z1T (toB K) [[32,64],Z1W to]:=rfl
   have hn0:=Zmf k ⟨K,rg,lo,od,to,ex⟩
   have l0:(Z1W (k:Nat)).length<=20:=Z1v ⟨by omega,by omega⟩
   have l1:(Z1W rg).length<=20:=Z1v ⟨by omega,by omega⟩
   have l2:(Z1W lo).length<=20:=Z1v ⟨by omega,by omega⟩
   have l3:=ZcR od
   have l4:(Z1W to).length<=20:=Z1v ⟨by omega,by omega⟩
   have l5:=Z9r K
   unfold Zkj Zo3 at hfw hins
   generalize ZjO k ⟨K,rg,lo,od,to,ex⟩=T0 at *
   generalize Zm3 ⟨K,rg,lo,od,to,ex⟩=T1 at *
   generalize Zmo ⟨K,rg,lo,od,to,ex⟩=T2 at *
   generalize orT ⟨K,rg,lo,od,to,ex⟩=T3 at *
   generalize toT ⟨K,rg,lo,od,to,ex⟩=T4 at *
   generalize Z1W (k:Nat)=D0 at *
   generalize Z1W rg=D1 at *
   generalize Z1W lo=D2 at *
   generalize Z1W to=D4 at *
   generalize Zb5 od=D3 at *
   generalize Z54 K=W0 at *
   generalize Z0R K=b1 at *
   generalize Z3o K=b2 at *
   generalize Z5p K=b3 at *
   generalize toB K=b4 at *
   simp only[Y0b]at hfw
   have G0:[D0,[32],W0].length<=100/\[D0,[32],W0].flatten≠[]/\[D0,[32],W0].flatten.length<=1048576:=⟨by simp,by simp,by simp;omega⟩
   have G1:[[32,114],D1].length<=100/\[[32,114],D1].flatten≠[]/\[[32,114],D1].flatten.length<=1048576:=⟨by simp,by simp,by simp;omega⟩
   have G2:[[32,120],D2].length<=100/\[[32,120],D2].flatten≠[]/\[[32,120],D2].flatten.length<=1048576:=⟨by simp,by simp,by simp;omega⟩
   have G3:[[32],D3].length<=100/\[[32],D3].flatten≠[]/\[[32],D3].flatten.length<=1048576:=⟨by simp,by simp,by simp;omega⟩
   have G4:[[32,64],D4].length<=100/\[[32,64],D4].flatten≠[]/\[[32,64],D4].flatten.length<=1048576:=⟨by simp,by simp,by simp;omega⟩
   have hX:∃X,X=cdT l k++(T0++T1++T2++T3++T4):=⟨_,rfl⟩
   obtain⟨X,hX⟩:=hX
   have hXn:X≠[]:=by rw[hX];simp[hn0]
   have hbd:∀m,m<=ex.length->(X++Z37 (ex.take m)).length+1<=1000000000:=λm hm=>by
    have h1:(Z37 (ex.take m)).length<=(Z37 ex).length:=by
     have:=congrArg Z37 (List.take_append_drop m ex)
     rw[Z7b]at this
     rw[<- this,Y0b];omega
    rw[hX]
    simp only[Y0b,Y06,Y0a]at hfw⊢
    omega
   cases hs0:cdT l k with
   |nil =>
    rw[hs0]at hX hfw hins
    simp only[BH]
    repeat' ((conv=>whnf);first|refine exI hx6 ?_|refine exI hsh ?_|with_reducible refine exI (qn _) ?_|with_reducible refine exI (qa _) ?_|with_reducible refine exI (qb _) ?_|with_reducible refine exI (qd _) ?_|with_reducible refine exI (qw _) ?_|with_reducible refine exI (qo _) ?_|(with_reducible refine ixJ K rfl ?_ ?_;focus omega)|(with_reducible refine ixJ k rfl ?_ ?_;focus omega)|(refine Zpv (ZoS p1 [D0,[32],W0] hT0.symm G0 ?_ rfl rfl rfl rfl rfl) ?_;focus omega)|(refine Z6e (Z5V p1 b1 [[32,114],D1] hT1.symm G1 ?_ ?_ rfl rfl rfl rfl rfl rfl) ?_;(exact neS);(exact leS))|(refine Z6e (Z5V p1 b2 [[32,120],D2] hT2.symm G2 ?_ ?_ rfl rfl rfl rfl rfl rfl) ?_;(exact neS);(exact leS))|(refine Z6e (Z5V p1 b3 [[32],D3] hT3.symm G3 ?_ ?_ rfl rfl rfl rfl rfl rfl) ?_;(exact neS);(exact leS))|(refine Z6e (Z5V p1 b4 [[32,64],D4] hT4.symm G4 ?_ ?_ rfl rfl rfl rfl rfl rfl) ?_;(exact neS);(exact leS))|refine stp ?_|with_reducible apply Z01<;>intro h)
    conv=>whnf
    refine⟨Nat,(λm=>m<=ex.length),(λm=>[(5,.ptr 0 0),(6,.func (.func 77) [] [.ptr 0 0]),(21,.rs l.length 6 (inC l)),(22,.int .i64 l.length),(23,.int .i64 (k:Nat)),(73,.rs ex.length 4 (exC ex)),(74,.int .i64 ex.length),(75,.int .i64 (m:Nat))]),(λm=>BH tS tB (X++Z37 (ex.take m))),(λm=>ex.length-m),⟨0,Y0c _,?_⟩,?_⟩
    · refine tfg (b:=0) (c:=12) (fb:=0) rfl ?_ (by simp[hXn]) rfl rfl rfl ?_
      ·rw[hX];simp[Z37]
      refine Y03 (Y08 rfl rfl) (Y03 (Wk.func trivial ⟨Y08 rfl rfl,trivial⟩) ?_)
      exact wks
    intro m hm
    dsimp only at hm⊢
    have hbnd:∀m,m<=ex.length->(X++Z37 (ex.take m)).length+1<=1000000000:=hbd
    by_cases hmt:m<ex.length
    · have e3:decide ((m:Int)<(ex.length:Int))=true:=by simpa using hmt
      have hx4:=ex4 ex m hmt
      have hok4:=Z0k hxk.2 _ (Z03 hmt)
      have hsz4:=hsk _ (Z03 hmt)
      have hw4:=hwk _ (Z03 hmt)
      have hf4:=hfk _ (Z03 hmt)
      have q5m:=q5 ex[m] hok4 (by omega) hf4.1
      have q6m:=q6 (Z1b ex[m]) (Z9S _ hok4) (Z7E _ (htk _ (Z03 hmt))) (by rw[Z49];omega) hf4.2 (by omega)
      have hnx:=Z80 hmt
      have hb1:=hbnd (m+1) hmt
      rw[hnx,<- Y0d]at hb1
      have hne4:X++Z37 (ex.take m)≠[]:=by simp[hXn]
      generalize hwe:wrE (Z1b ex[m])=w at *
      clear hwe
      generalize Z1b ex[m]=y at *
      generalize ex[m]=x at *
      generalize Z37 (ex.take m)=E at *
      obtain⟨xo,xn,xs,xk⟩:=x
      obtain⟨yo,yn,ys,yk⟩:=y
      simp only[Ex.cells,exA]at hx4 q5m q6m
      have G5:[[32,40],w,[41]].length<=100/\[[32,40],w,[41]].flatten≠[]/\[[32,40],w,[41]].flatten.length<=1048576:=⟨by simp,by simp,by simp;omega⟩
      obtain⟨F,hF⟩:∃F,[[32,40],w,[41]].flatten=F:=⟨_,rfl⟩
      rw[hF]at hnx hb1
      have hFp:Z1T true [[32,40],w,[41]]=F:=hF
      rw[Y0b]at hb1
      generalize hXE:X++E=XE at *
      obtain⟨z0,z1,rfl⟩:∃c t,XE=c::t:=by cases XE with|nil=>exact absurd rfl hne4|cons c t=>exact⟨c,t,rfl⟩
      simp only[BH]
      clear hbd hbnd
      repeat' ((conv=>whnf);first|refine exI hx4 ?_|with_reducible refine exI (q5m _) ?_|with_reducible refine exI (q6m _) ?_|(with_reducible refine ixJ m rfl ?_ ?_;focus omega)|(refine Z6e (Z5V p1 true [[32,40],w,[41]] hFp G5 ?_ ?_ rfl rfl rfl rfl rfl rfl) ?_;(exact neS);(exact leS))|refine stp ?_|with_reducible apply Z01<;>intro h)
      conv=>whnf
      refine⟨m+1,hmt,by show ex.length-(m+1)<ex.length-m;omega,?_⟩
      (try dsimp only)
      rw[hnx,<- Y0d,hXE]
      refine tfg (b:=0) (c:=4) (fb:=0) rfl rfl (Y0m _ _) rfl rfl rfl ?_
      refine Y03 (Y08 rfl rfl) (Y03 (Wk.func trivial ⟨Y08 rfl rfl,trivial⟩) ?_)
      exact wks
    · have e3:decide ((m:Int)<(ex.length:Int))=false:=by simpa using hmt
      have hm2:m=ex.length:=by omega
      subst hm2
      have hb1:=hbnd ex.length (Y02 _)
      rw[Y09]at hb1⊢
      have hne4:X++Z37 ex≠[]:=by simp[hXn]
      have hlast:X++Z37 ex++[10]=cdT l (k+1):=by rw[hins,hX];simp only[Y0d]
      generalize hXE:X++Z37 ex=XE at *
      obtain⟨z0,z1,rfl⟩:∃c t,XE=c::t:=by cases XE with|nil=>exact absurd rfl hne4|cons c t=>exact⟨c,t,rfl⟩
      simp only[BH]
      clear hXE hbd hbnd
      have hFp:Z1T true [[10]]=[10]:=rfl
      have G6:[[10]].length<=100/\([[10]]:List (List UInt8)).flatten≠[]/\([[10]]:List (List UInt8)).flatten.length<=1048576:=⟨by simp,by simp,by simp⟩
      repeat' ((conv=>whnf);first|(refine Z6e (Z5V p1 true [[10]] hFp G6 ?_ ?_ rfl rfl rfl rfl rfl rfl) ?_;(exact neS);(exact leS))|refine stp ?_|with_reducible apply Z01<;>intro h)
      conv=>whnf
      refine⟨k+1,hlt,by show l.length-(k+1)<l.length-k;omega,?_⟩
      (try dsimp only)
      refine tfg (b:=0) (c:=3) (fb:=0) rfl hlast (by rw[<- hlast];simp) rfl rfl rfl ?_
      refine Y03 (Y08 rfl rfl) (Y03 (Wk.func trivial ⟨Y08 rfl rfl,trivial⟩) ?_)
      exact wks
   |cons c0 s0 =>
    rw[hs0]at hX hfw hins
    simp only[BH]
    repeat' ((conv=>whnf);first|refine exI hx6 ?_|refine exI hsh ?_|with_reducible refine exI (qn _) ?_|with_reducible refine exI (qa _) ?_|with_reducible refine exI (qb _) ?_|with_reducible refine exI (qd _) ?_|with_reducible refine exI (qw _) ?_|with_reducible refine exI (qo _) ?_|(with_reducible refine ixJ K rfl ?_ ?_;focus omega)|(with_reducible refine ixJ k rfl ?_ ?_;focus omega)|(refine Z6e (Z5V p1 true [D0,[32],W0] hT0.symm G0 ?_ ?_ rfl rfl rfl rfl rfl rfl) ?_;(exact neS);(exact leS))|(refine Z6e (Z5V p1 b1 [[32,114],D1] hT1.symm G1 ?_ ?_ rfl rfl rfl rfl rfl rfl) ?_;(exact neS);(exact leS))|(refine Z6e (Z5V p1 b2 [[32,120],D2] hT2.symm G2 ?_ ?_ rfl rfl rfl rfl rfl rfl) ?_;(exact neS);(exact leS))|(refine Z6e (Z5V p1 b3 [[32],D3] hT3.symm G3 ?_ ?_ rfl rfl rfl rfl rfl rfl) ?_;(exact neS);(exact leS))|(refine Z6e (Z5V p1 b4 [[32,64],D4] hT4.symm G4 ?_ ?_ rfl rfl rfl rfl rfl rfl) ?_;(exact neS);(exact leS))|refine stp ?_|with_reducible apply Z01<;>intro h)
    conv=>whnf
    refine⟨Nat,(λm=>m<=ex.length),(λm=>[(5,.ptr 0 0),(6,.func (.func 77) [] [.ptr 0 0]),(21,.rs l.length 6 (inC l)),(22,.int .i64 l.length),(23,.int .i64 (k:Nat)),(73,.rs ex.length 4 (exC ex)),(74,.int .i64 ex.length),(75,.int .i64 (m:Nat))]),(λm=>BH tS tB (X++Z37 (ex.take m))),(λm=>ex.length-m),⟨0,Y0c _,?_⟩,?_⟩
    · refine tfg (b:=0) (c:=13) (fb:=0) rfl ?_ (by simp[hXn]) rfl rfl rfl ?_
      ·rw[hX];simp[Z37]
      refine Y03 (Y08 rfl rfl) (Y03 (Wk.func trivial ⟨Y08 rfl rfl,trivial⟩) ?_)
      exact wks
    intro m hm
    dsimp only at hm⊢
    have hbnd:∀m,m<=ex.length->(X++Z37 (ex.take m)).length+1<=1000000000:=hbd
    by_cases hmt:m<ex.length
    · have e3:decide ((m:Int)<(ex.length:Int))=true:=by simpa using hmt
      have hx4:=ex4 ex m hmt
      have hok4:=Z0k hxk.2 _ (Z03 hmt)
      have hsz4:=hsk _ (Z03 hmt)
      have hw4:=hwk _ (Z03 hmt)
      have hf4:=hfk _ (Z03 hmt)
      have q5m:=q5 ex[m] hok4 (by omega) hf4.1
      have q6m:=q6 (Z1b ex[m]) (Z9S _ hok4) (Z7E _ (htk _ (Z03 hmt))) (by rw[Z49];omega) hf4.2 (by omega)
      have hnx:=Z80 hmt
      have hb1:=hbnd (m+1) hmt
      rw[hnx,<- Y0d]at hb1
      have hne4:X++Z37 (ex.take m)≠[]:=by simp[hXn]
      generalize hwe:wrE (Z1b ex[m])=w at *
      clear hwe
      generalize Z1b ex[m]=y at *
      generalize ex[m]=x at *
      generalize Z37 (ex.take m)=E at *
      obtain⟨xo,xn,xs,xk⟩:=x
      obtain⟨yo,yn,ys,yk⟩:=y
      simp only[Ex.cells,exA]at hx4 q5m q6m
      have G5:[[32,40],w,[41]].length<=100/\[[32,40],w,[41]].flatten≠[]/\[[32,40],w,[41]].flatten.length<=1048576:=⟨by simp,by simp,by simp;omega⟩
      obtain⟨F,hF⟩:∃F,[[32,40],w,[41]].flatten=F:=⟨_,rfl⟩
      rw[hF]at hnx hb1
      have hFp:Z1T true [[32,40],w,[41]]=F:=hF
      rw[Y0b]at hb1
      generalize hXE:X++E=XE at *
      obtain⟨z0,z1,rfl⟩:∃c t,XE=c::t:=by cases XE with|nil=>exact absurd rfl hne4|cons c t=>exact⟨c,t,rfl⟩
      simp only[BH]
      clear hbd hbnd
      repeat' ((conv=>whnf);first|refine exI hx4 ?_|with_reducible refine exI (q5m _) ?_|with_reducible refine exI (q6m _) ?_|(with_reducible refine ixJ m rfl ?_ ?_;focus omega)|(refine Z6e (Z5V p1 true [[32,40],w,[41]] hFp G5 ?_ ?_ rfl rfl rfl rfl rfl rfl) ?_;(exact neS);(exact leS))|refine stp ?_|with_reducible apply Z01<;>intro h)
      conv=>whnf
      refine⟨m+1,hmt,by show ex.length-(m+1)<ex.length-m;omega,?_⟩
      (try dsimp only)
      rw[hnx,<- Y0d,hXE]
      refine tfg (b:=0) (c:=4) (fb:=0) rfl rfl (Y0m _ _) rfl rfl rfl ?_
      refine Y03 (Y08 rfl rfl) (Y03 (Wk.func trivial ⟨Y08 rfl rfl,trivial⟩) ?_)
      exact wks
    · have e3:decide ((m:Int)<(ex.length:Int))=false:=by simpa using hmt
      have hm2:m=ex.length:=by omega
      subst hm2
      have hb1:=hbnd ex.length (Y02 _)
      rw[Y09]at hb1⊢
      have hne4:X++Z37 ex≠[]:=by simp[hXn]
      have hlast:X++Z37 ex++[10]=cdT l (k+1):=by rw[hins,hX];simp only[Y0d]
      generalize hXE:X++Z37 ex=XE at *
      obtain⟨z0,z1,rfl⟩:∃c t,XE=c::t:=by cases XE with|nil=>exact absurd rfl hne4|cons c t=>exact⟨c,t,rfl⟩
      simp only[BH]
      clear hXE hbd hbnd
      have hFp:Z1T true [[10]]=[10]:=rfl
      have G6:[[10]].length<=100/\([[10]]:List (List UInt8)).flatten≠[]/\([[10]]:List (List UInt8)).flatten.length<=1048576:=⟨by simp,by simp,by simp⟩
      repeat' ((conv=>whnf);first|(refine Z6e (Z5V p1 true [[10]] hFp G6 ?_ ?_ rfl rfl rfl rfl rfl rfl) ?_;(exact neS);(exact leS))|refine stp ?_|with_reducible apply Z01<;>intro h)
      conv=>whnf
      refine⟨k+1,hlt,by show l.length-(k+1)<l.length-k;omega,?_⟩
      (try dsimp only)
      refine tfg (b:=0) (c:=3) (fb:=0) rfl hlast (by rw[<- hlast];simp) rfl rfl rfl ?_
      refine Y03 (Y08 rfl rfl) (Y03 (Wk.func trivial ⟨Y08 rfl rfl,trivial⟩) ?_)
      exact wks
 · have e1:decide ((k:Int)<(l.length:Int))=false:=by simpa using hlt
   have hk2:k=l.length:=by omega
   subst hk2
   have hne:=Zoo l (l.length-1)
   rw[show l.length-1+1=l.length from by omega]at hne
   have hl9:=hfew l.length (Y02 _)
   generalize cdT l l.length=w at *
   obtain⟨c,r,rfl⟩:∃c r,w=c::r:=by cases w with|nil=>exact absurd rfl hne|cons c r=>exact⟨c,r,rfl⟩
   simp only[BH]
   repeat' ((conv=>whnf);first|refine exI (ZdQ (s:=c::r) rfl rfl rfl hne (by omega) rfl) ?_|refine exI (Zje (s:=c::r) hne (by omega) rfl) ?_|refine stp ?_|with_reducible apply Z01<;>intro h)
   all_goals rfl
end Go.Proofs.YthbimonbnaodkaaGreatDoor.lex
end
section
namespace Go.Proofs.YthbimonbnaodkaaGreatDoor.lex
open Go.Abs Go.RowKit Go.Flat
theorem Zoh {k : Int} (h : 1 <= k /\ k <= 13) :
  (Z0R k=true/\Z3o k=false/\Z5p k=false/\(k==10)=false/\(k==11)=false)\/(Z0R k=true/\Z3o k=true/\Z5p k=true/\(k==10)=false/\(k==11)=false)\/(Z0R k=false/\Z3o k=true/\Z5p k=true/\(k==10)=false/\(k==11)=false) \/
  (Z0R k=false/\Z3o k=false/\Z5p k=true/\(k==10)=false/\(k==11)=false)\/(Z0R k=false/\Z3o k=false/\Z5p k=false/\(k==10)=false/\(k==11)=false)\/(Z0R k=false/\Z3o k=false/\Z5p k=false/\(k==10)=true/\(k==11)=false)\/(Z0R k=false/\Z3o k=false/\Z5p k=false/\(k==10)=false/\(k==11)=true):=by
 rcases ZcY h with rfl|rfl|rfl|rfl|rfl|rfl|rfl|rfl|rfl|rfl|rfl|rfl|rfl
 all_goals decide
theorem ZfC(c:Cd)(ht:Tld c)(hc:Z2o c=0):ValOK Y00 runLives.gl 30 [c.av] (.tuple [.str (cdT c.ins c.ins.length),.int .i64 0]):=by
 have hck:=Z1d (gl:=runLives.gl) c ht.ok ht.sz
 rw[hc]at hck
 have hfine:=Z2j hc
 have hfc:=hfine.check
 have hrt:=hfine.right
 have hreg:=hfine.reg1
 obtain⟨regs,l⟩:=c
 simp only[Cd.av]at *
 have hp:=hfine.good.pos
 have hf:=hfine.good.few
 simp only at hp hf hreg
 have hx2:=ht.ok.2
 have htg:=ht.rg
 have hsz:=ht.sz
 have hwr:=ht.wr
 have hfew:=ht.few
 simp only at hx2 htg hsz hwr hfew
 obtain⟨O,hO,r1,r2,r3,r4,r5,r6,r7,r8,-⟩:=fams (P:=Y00) (gl:=runLives.gl) [{ I:=Unit,f:=10,G:=λ_=>True,A:=λ_=>[.agg [.int .i64 regs,.rs l.length 6 (inC l)]],R:=λ_=>.int .i64 0,body:=(by kernel_rfl),inj:=λ_ _ _ _ _=>rfl,ok:=λ_ _=>⟨rfl,hck⟩ },
  { I:=Int,f:=86,G:=λn=>0<=n/\rgI n,A:=λn=>[.int .i64 n],R:=λn=>.str (Z1W n),body:=(by kernel_rfl),inj:=(λi j _ _ h=>by simp only[List.cons.injEq,AV.int.injEq,true_and,and_true]at h;rw[h]),ok:=(λn h=>⟨rfl,Zf2 n h.1 h.2⟩) },
  { I:=Int,f:=87,G:=λn=>1<=n/\n<=13,A:=λn=>[.int .i64 n],R:=λn=>.str (Z54 n),body:=(by kernel_rfl),inj:=(λi j _ _ h=>by simp only[List.cons.injEq,AV.int.injEq,true_and,and_true]at h;rw[h]),ok:=(λn h=>⟨rfl,ZfB n h⟩) },
  { I:=Int,f:=90,G:=λ_=>True,A:=λn=>[.int .i64 n],R:=λn=>.str (Zb5 n),body:=(by kernel_rfl),inj:=(λi j _ _ h=>by simp only[List.cons.injEq,AV.int.injEq,true_and,and_true]at h;rw[h]),ok:=(λn _=>⟨rfl,Zm8 n⟩) },
  { I:=Int,f:=88,G:=λ_=>True,A:=λn=>[.int .i64 n],R:=λn=>.bool (Z0R n),body:=(by kernel_rfl),inj:=(λi j _ _ h=>by simp only[List.cons.injEq,AV.int.injEq,true_and,and_true]at h;rw[h]),ok:=(λn _=>⟨rfl,ZcD n⟩) },
  { I:=Int,f:=89,G:=λ_=>True,A:=λn=>[.int .i64 n],R:=λn=>.bool (Z3o n),body:=(by kernel_rfl),inj:=(λi j _ _ h=>by simp only[List.cons.injEq,AV.int.injEq,true_and,and_true]at h;rw[h]),ok:=(λn _=>⟨rfl,ZiI n⟩) },
  { I:=Ex,f:=64,G:=λe=>okE e/\Z0a e<=1048576,A:=λe=>[.agg e.cells,.str [114]],R:=λe=>.agg (Z1b e).cells,body:=(by kernel_rfl),inj:=(λx y _ _ h=>by simp only[List.cons.injEq,AV.agg.injEq,and_true]at h;rw[Z0M _ _ h]),ok:=(λe h=>⟨by obtain⟨o,m,s,k⟩:=e;simp only[Ex.cells];rfl,Z9Q _ e (Y02 _) h.1 h.2⟩) },
  { I:=Ex,f:=91,G:=λe=>Z0j e=true/\rgE e/\(wrE e).length<=1073741824,A:=λe=>[.agg e.cells],R:=λe=>.str (wrE e),body:=(by kernel_rfl),inj:=(λx y _ _ h=>by simp only[List.cons.injEq,AV.agg.injEq,and_true]at h;rw[Z0M _ _ h]),ok:=(λe h=>⟨Z1l e,Z53 _ e (Y02 _) h.1 h.2.1 h.2.2⟩) }] rfl
 have q1:∀H,Z02 Y00 O H 10 [.agg [.int .i64 regs,.rs l.length 6 (inC l)]]=some (.int .i64 0,H):=r1 () trivial
 have q2:∀n,0<=n->rgI n->∀H,Z02 Y00 O H 86 [.int .i64 n]=some (.str (Z1W n),H):=λn h1 h2=>r2 n ⟨h1,h2⟩
 have q3:∀n,1<=n/\n<=13->∀H,Z02 Y00 O H 87 [.int .i64 n]=some (.str (Z54 n),H):=r3
 have q4:∀n H,Z02 Y00 O H 90 [.int .i64 n]=some (.str (Zb5 n),H):=λn=>r4 n trivial
 have qs:∀n H,Z02 Y00 O H 88 [.int .i64 n]=some (.bool (Z0R n),H):=λn=>r5 n trivial
 have qc:∀n H,Z02 Y00 O H 89 [.int .i64 n]=some (.bool (Z3o n),H):=λn=>r6 n trivial
 have q5:∀e,okE e->Z0a e<=1048576->∀H,Z02 Y00 O H 64 [.agg e.cells,.str [114]]=some (.agg (Z1b e).cells,H):=λe h1 h2=>r7 e ⟨h1,h2⟩
 have q6:∀e,Z0j e=true->rgE e->(wrE e).length<=1073741824->∀H,Z02 Y00 O H 91 [.agg e.cells]=some (.str (wrE e),H):=λe h1 h2 h3=>r8 e ⟨h1,h2,h3⟩
 clear r1 r2 r3 r4 r5 r6 r7 r8 hck hc
 refine Z05 follows Z07 hO Tryz.func30 rfl ?_
 repeat' ((conv=>whnf);first|refine exI (q1 _) ?_|refine stp ?_|with_reducible apply Z01<;>intro h)
 conv=>whnf
 refine⟨Nat,(λk=>k<=l.length),(λk=>[(1,.ptr 0 0),(5,.str (cdT l k)),(6,.int .i64 (k:Nat))]),(λk=>[⟨true,0,0,.cells [.int .i64 regs,.rs l.length 6 (inC l)] 24⟩]),(λk=>l.length-k),⟨0,Y0c _,?_⟩,?_⟩
 · refine Y01 [0] rfl ?_ ⟨hbp,trivial⟩ rfl
   exact wks
 intro k hk
 dsimp only at hk⊢
 by_cases hlt:k<l.length
 · have e1:decide ((k:Int)<(l.length:Int))=true:=by simpa using hlt
   have hx6:=in6 l k hlt
   have hrk:=hrt _ (Z03 hlt)
   have hfk:=hfc _ (Z03 hlt)
   have hxk:=hx2 _ (Z03 hlt)
   have htk:=htg _ (Z03 hlt)
   have hsk:=hsz _ (Z03 hlt)
   have hwk:=hwr _ (Z03 hlt)
   have hfw:=hfew (k+1) hlt
   have hins:cdT l (k+1)=cdT l k++Zkj k l[k]:=by rw[<- Z15 hlt];rfl
   rw[hins]at hfw
   generalize l[k]=i at *
   obtain⟨kd,rg,lo,od,to,ex⟩:=i
   simp only[icells,exA]at *
   simp only[Z0y,Y07,decide_eq_true_eq]at hrk
   obtain⟨hkd,g1,g2,g3,g4,g5,g6⟩:=hrk
   have ra:0<=rg/\rg<4000:=by
    unfold inW at g1;split at g1
    ·simp only[Y07,decide_eq_true_eq]at g1;omega
    ·have g1:=eq_of_beq g1;omega
   have rb:0<=lo/\lo<4000:=by
    unfold inW at g2;split at g2
    ·simp only[Y07,decide_eq_true_eq]at g2;omega
    ·have g2:=eq_of_beq g2;omega
   have rd:0<=to/\to<=4000:=by
    unfold inW at g4;split at g4
    ·simp only[Y07,decide_eq_true_eq]at g4;omega
    ·have g4:=eq_of_beq g4;omega
   have ro:(od != 0)=Z5p kd:=by
    unfold inW at g3;split at g3
    · rename_i h
      simp only[Y07,decide_eq_true_eq]at g3
      rw[h];simp;omega
    · rename_i h
      have g3:=eq_of_beq g3
      rw[g3];simp only[Y0l]at h;rw[h];rfl
   have qn:=q2 (k:Nat) (by omega) ⟨by omega,by omega⟩
   have qa:=q2 rg ra.1 ⟨by omega,by omega⟩
   have qb:=q2 lo rb.1 ⟨by omega,by omega⟩
   have qd:=q2 to rd.1 ⟨by omega,by omega⟩
   have qw:=q3 kd hkd
   have qo:=q4 od
   have qss:=qs kd
   have qcc:=qc kd
   have hT0:ZjO k ⟨kd,rg,lo,od,to,ex⟩=[Z1W (k:Nat),[32],Z54 kd].flatten:=rfl
   have hT1:Zm3 ⟨kd,rg,lo,od,to,ex⟩=Z1T (Z0R kd) [[32,114],Z1W rg]:=rfl
   have hT2:Zmo ⟨kd,rg,lo,od,to,ex⟩=Z1T (Z3o kd) [[32,120],Z1W lo]:=rfl
   have hT3:orT ⟨kd,rg,lo,od,to,ex⟩=Z1T (Z5p kd) [[32],Zb5 od]:=rfl
   have hT4:toT ⟨kd,rg,lo,od,to,ex⟩=Z1T (kd==10 || kd==11) [[32,64],Z1W to]:=rfl
   have l0:(Z1W (k:Nat)).length<=20:=Z1v ⟨by omega,by omega⟩
   have l1:(Z1W rg).length<=20:=Z1v ⟨by omega,by omega⟩
   have l2:(Z1W lo).length<=20:=Z1v ⟨by omega,by omega⟩
   have l3:=ZcR od
   have l4:(Z1W to).length<=20:=Z1v ⟨by omega,by omega⟩
   have l5:=Z9r kd
   unfold Zkj Zo3 at hfw hins
   have hcb:=Zoh hkd
   clear g1 g2 g3 g4 g5 g6
   generalize ZjO k ⟨kd,rg,lo,od,to,ex⟩=T0 at *
   generalize Zm3 ⟨kd,rg,lo,od,to,ex⟩=T1 at *
   generalize Zmo ⟨kd,rg,lo,od,to,ex⟩=T2 at *
   generalize orT ⟨kd,rg,lo,od,to,ex⟩=T3 at *
   generalize toT ⟨kd,rg,lo,od,to,ex⟩=T4 at *
   generalize Z1W (k:Nat)=D0 at *
   generalize Z1W rg=D1 at *
   generalize Z1W lo=D2 at *
   generalize Z1W to=D4 at *
   generalize Zb5 od=D3 at *
   generalize Z54 kd=W0 at *
   generalize Z0R kd=b1 at *
   generalize Z3o kd=b2 at *
   generalize Z5p kd=b3 at *
   simp only[Y0b]at hfw
   have hX:∃X,X=cdT l k++(T0++T1++T2++T3++T4):=⟨_,rfl⟩
   obtain⟨X,hX⟩:=hX
   have hbd:∀m,m<=ex.length->(X++Z37 (ex.take m)).length+1<=1000000000:=λm hm=>by
    have h1:(Z37 (ex.take m)).length<=(Z37 ex).length:=by
     have:=congrArg Z37 (List.take_append_drop m ex)
     rw[Z7b]at this
     rw[<- this,Y0b];omega
    rw[hX]
    simp only[Y0b,Y06,Y0a]at hfw⊢
    omega
   have hlast:X++Z37 ex++[10]=cdT l (k+1):=by rw[hins,hX];simp only[Y0d]
   have hcl:(cdT l k).length<=1000000000:=hfew k hk
   generalize cdT l k=C0 at *
   clear hfw hins
   rcases hcb with ⟨rfl,rfl,rfl,k1,k2⟩|⟨rfl,rfl,rfl,k1,k2⟩|⟨rfl,rfl,rfl,k1,k2⟩|⟨rfl,rfl,rfl,k1,k2⟩|⟨rfl,rfl,rfl,k1,k2⟩|⟨rfl,rfl,rfl,k1,k2⟩|⟨rfl,rfl,rfl,k1,k2⟩
   all_goals rw[k1,k2]at hT4
   all_goals repeat' ((conv=>whnf);first|refine exI hx6 ?_|with_reducible refine exI (qn _) ?_|with_reducible refine exI (qa _) ?_|with_reducible refine exI (qb _) ?_|with_reducible refine exI (qd _) ?_|with_reducible refine exI (qw _) ?_|with_reducible refine exI (qo _) ?_|with_reducible refine exI (qss _) ?_|with_reducible refine exI (qcc _) ?_|(with_reducible refine ixJ k rfl ?_ ?_;focus omega)|(refine Y03 ?_ ?_;(focus (show _<=(9223372036854775807:Nat);first|omega|(simp;done)|(simp;omega))))|refine stp ?_|with_reducible apply Z01<;>intro h)
   all_goals (conv=>whnf)
   all_goals refine⟨Nat,(λm=>m<=ex.length),(λm=>[(1,.ptr 0 0),(5,.str (X++Z37 (ex.take m))),(6,.int .i64 (k:Nat)),(7,.ptr 1 0),(8,.int .i64 (m:Nat))]),(λm=>[⟨true,0,0,.cells [.int .i64 regs,.rs l.length 6 (inC l)] 24⟩,⟨true,1,0,.cells [.int .i64 kd,.int .i64 rg,.int .i64 lo,.int .i64 od,.int .i64 to,.rs ex.length 4 (exC ex)] 37⟩]),(λm=>ex.length-m),⟨0,Y0c _,?_⟩,?_⟩
   all_goals first|(refine Y01 [0,1] rfl ?_ ⟨hbp,hbp,trivial⟩ rfl;refine Y03 (Y08 rfl rfl) (Y03 (Wk.eq (congrArg AV.str ?_) rfl) ?_);(focus (rw[hX,hT0,hT1,hT2,hT3,hT4];simp[Z1T,Z37]));(repeat (first|exact trivial|refine stw ?_));done)|skip
   all_goals intro m hm
   all_goals dsimp only at hm⊢
   all_goals rcases Nat.lt_or_ge m ex.length with hmt|hmt
   all_goals first
    | (have e3 : decide ((m : Int) < (ex.length : Int)) = true := decide_eq_true (Int.ofNat_lt.2 hmt)
       have hx4:=ex4 ex m hmt
       have hok4:=Z0k hxk.2 _ (Z03 hmt)
       have hsz4:=hsk _ (Z03 hmt)
       have hw4:=hwk _ (Z03 hmt)
       have hf4:=hfk _ (Z03 hmt)
       have q5m:=q5 ex[m] hok4 (by omega)
       have q6m:=q6 (Z1b ex[m]) (Z87 hf4.2) (Z7E _ (htk _ (Z03 hmt))) (by omega)
       have hnx:=Z80 hmt
       have hb1:=hbd (m+1) hmt
       rw[hnx,<- Y0d]at hb1
       generalize hwe:wrE (Z1b ex[m])=w at *
       clear hwe
       generalize Z1b ex[m]=y at *
       generalize ex[m]=x at *
       generalize Z37 (ex.take m)=E at *
       obtain⟨xo,xn,xs,xk⟩:=x
       obtain⟨yo,yn,ys,yk⟩:=y
       simp only[Ex.cells,exA]at hx4 q5m q6m
       simp only[Y0b,Y0x,Y0y,Y06,Y0a]at hb1
       repeat' ((conv=>whnf);first|refine exI hx4 ?_|with_reducible refine exI (q5m _) ?_|with_reducible refine exI (q6m _) ?_|(with_reducible refine ixJ m rfl ?_ ?_;focus omega)|(refine Y03 ?_ ?_;(focus (show _<=(9223372036854775807:Nat);first|omega|(simp;done)|(simp;omega))))|refine stp ?_|with_reducible apply Z01<;>intro h)
       conv=>whnf
       refine⟨m+1,hmt,by show ex.length-(m+1)<ex.length-m;omega,?_⟩
       (try dsimp only)
       rw[hnx]
       refine Y01 [0,1] rfl ?_ ⟨hbp,hbp,trivial⟩ rfl
       refine Y03 (Y08 rfl rfl) (Y03 (Wk.eq (congrArg AV.str ?_) rfl) ?_)
       (focus (simp))
       exact wks
       done)
    | (have e3 : decide ((m : Int) < (ex.length : Int)) = false := decide_eq_false (fun h => absurd (Int.ofNat_lt.1 h) (Nat.not_lt.2 hmt))
       have hm2:m=ex.length:=Nat.le_antisymm hm hmt
       subst hm2
       have hb1:=hbd ex.length (Y02 _)
       rw[Y09]at hb1⊢
       generalize X++Z37 ex=XE at *
       repeat' ((conv=>whnf);first|(refine Y03 ?_ ?_;(focus (show _<=(9223372036854775807:Nat);first|omega|(simp;done)|(simp;omega))))|refine stp ?_|with_reducible apply Z01<;>intro h)
       conv=>whnf
       refine⟨k+1,hlt,by show l.length-(k+1)<l.length-k;omega,?_⟩
       (try dsimp only)
       rw[<- hlast]
       refine Y01 [0] rfl ?_ ⟨hbp,trivial⟩ rfl
       exact wks
       done)
 · have e1:decide ((k:Int)<(l.length:Int))=false:=by simpa using hlt
   have hk2:k=l.length:=by omega
   subst hk2
   generalize cdT l l.length=w at *
   repeat' ((conv=>whnf);first|refine stp ?_|with_reducible apply Z01<;>intro h)
   all_goals rfl
end Go.Proofs.YthbimonbnaodkaaGreatDoor.lex
end
section
namespace Go.Proofs.YthbimonbnaodkaaGreatDoor.lex.oc
open Go.Abs Go.RowKit Go.Flat Go.Proofs.YthbimonbnaodkaaGreatDoor.lex
theorem ZoM{n:Int}(h:(Lit.int .i64 n).wf=true):rgI n:=by
 have h':IntKind.i64.min<=n/\n<=9223372036854775807:=by simpa[Lit.wf]using h
 have h2:IntKind.i64.min = -9223372036854775808:=rfl
 unfold rgI;omega
def QE(us:List AV):Prop:=∃e:Ex,us=e.cells/\okE e/\rgE e
def QEL(us:List AV):Prop:=∃l:List Ex,us=[exA l]/\(okL l/\rgL l)/\l.length<=maxLen
def QI(us:List AV):Prop:=∃n,us=[.int .i64 n]/\(Lit.int .i64 n).wf=true
def QT(us:List AV):Prop:=∃s:List UInt8,us=[.str s]/\s.length<=maxLen
theorem Z81:∀l:List (List AV),(∀u∈l,QE u/\u.length=4)->∃m:List Ex,l.flatten=exC m/\l.length=m.length/\okL m/\rgL m
 |[],_=>⟨[],by simp only[exC,Y0y],rfl,trivial,trivial⟩
 |u::l,h=>by
  obtain⟨m,h1,h2,h3,h5⟩:=Z81 l λv hv=>h v (by simp[hv])
  obtain⟨⟨e,rfl,h4⟩,_⟩:=h u (by simp)
  exact⟨e::m,by simp only[Y0x,exC,h1],by simp[h2],by simp only[okL];exact⟨h4.1,h3⟩,by simp only[rgL];exact⟨h4.2,h5⟩⟩
theorem fsE(N:Nat)(h:OpensB Y00 N 35 QEL):Z2W Y00 N (match Y00.underlying 69 with|some (.struct fs)=>fs.toList|_=>[]) [QI,QI,QT,QEL] 0 (Y00.cellsOf 69):=by
 rw[Y0H]
 refine⟨rfl,.of (Z0B Y0j),?_⟩
 refine⟨by kernel_rfl,.of (Z0B Tryz.underlying2),?_⟩
 refine⟨by kernel_rfl,.of (Zb6 Tryz.underlying9),?_⟩
 refine⟨by kernel_rfl,h,?_⟩
 unfold Z2W;kernel_rfl
theorem q_e{us:List AV}(h:FsQ [QI,QI,QT,QEL] us):QE us:=by
 obtain⟨a,u1,rfl,⟨n1,rfl,_⟩,b,u2,rfl,⟨n2,rfl,hw⟩,c,u3,rfl,⟨s,rfl,hs⟩,d,u4,rfl,⟨k,rfl,⟨hk,hr⟩,hkl⟩,h3⟩:=h
 have h3:u4=[]:=h3
 subst h3
 exact⟨.mk n1 n2 s k,by simp only[Ex.cells];rfl,by simp only[okE,okN];exact⟨⟨hs,hkl⟩,hk⟩,by simp only[rgE];exact⟨ZoM hw,hr⟩⟩
theorem Zb7:∀N,OpensB Y00 N 69 QE/\OpensB Y00 N 35 QEL
 |0=>⟨Z3D,Z3D⟩
 |N+1=>by
  obtain⟨h1,h2⟩:=Zb7 N
  have h3:=fsE N h2
  rw[Y0H]at h3
  refine⟨(Z5q Y0H h3).mono λu hu=>q_e hu,(Z6v Tryz.underlying35 (by kernel_rfl) (show (4:Nat)≠0 by decide) h1).mono ?_⟩
  rintro u ⟨l,hl,rfl,hll⟩
  obtain⟨m,e1,e2,e3,e4⟩:=Z81 l hl
  exact⟨m,by rw[e1,e2];rfl,⟨e3,e4⟩,by rw[<- e2];exact hll⟩
def QN(us:List AV):Prop:=∃i:Ins,us=icells i/\i.ex.length<=9223372036854775807/\okL i.ex/\rgL i.ex
def QNL(us:List AV):Prop:=∃l:List Ins,us=[.rs l.length 6 (inC l)]/\l.length<=9223372036854775807/\∀i∈l,i.ex.length<=9223372036854775807/\okL i.ex/\rgL i.ex
theorem Z7P:∀l:List (List AV),(∀u∈l,QN u/\u.length=6)->∃m:List Ins,l.flatten=inC m/\l.length=m.length/\∀i∈m,i.ex.length<=9223372036854775807/\okL i.ex/\rgL i.ex
 |[],_=>⟨[],by simp only[inC,Y0y],rfl,by simp⟩
 |u::l,h=>by
  obtain⟨m,h1,h2,h3⟩:=Z7P l λv hv=>h v (by simp[hv])
  obtain⟨⟨e,rfl,h4⟩,_⟩:=h u (by simp)
  exact⟨e::m,by simp only[Y0x,inC,h1],by simp[h2],λd hd=>by rcases List.mem_cons.1 hd with rfl|hd;exact h4;exact h3 d hd⟩
theorem fsN:Z1Z Y00 (match Y00.underlying 37 with|some (.struct fs)=>fs.toList|_=>[]) [QI,QI,QI,QI,QI,QEL] 0 (Y00.cellsOf 37):=by
 rw[Y0n]
 refine⟨rfl,Z0B Y0j,?_⟩
 refine⟨by kernel_rfl,Z0B Y0j,?_⟩
 refine⟨by kernel_rfl,Z0B Y0j,?_⟩
 refine⟨by kernel_rfl,Z0B Y0j,?_⟩
 refine⟨by kernel_rfl,Z0B Y0j,?_⟩
 refine⟨by kernel_rfl,OpensB.all λN=>(Zb7 N).2,?_⟩
 unfold Z1Z;kernel_rfl
theorem q_n{us:List AV}(h:FsQ [QI,QI,QI,QI,QI,QEL] us):QN us:=by
 obtain⟨a,u1,rfl,⟨n1,rfl,_⟩,b,u2,rfl,⟨n2,rfl,_⟩,c,u3,rfl,⟨n3,rfl,_⟩,d,u4,rfl,⟨n4,rfl,_⟩,e,u5,rfl,⟨n5,rfl,_⟩,f,u6,rfl,⟨k,rfl,hk,hkl⟩,h3⟩:=h
 have h3:u6=[]:=h3
 subst h3
 exact⟨⟨n1,n2,n3,n4,n5,k⟩,rfl,hkl,hk.1,hk.2⟩
theorem ZcS:Z6T Y00 22 QNL:=by
 have h3:=fsN
 rw[Y0n]at h3
 refine Z4q (Z7C Tryz.underlying22 (by kernel_rfl) (show (6:Nat)≠0 by decide) (Z4q (Z47 Y0n h3) λu hu=>q_n hu)) ?_
 rintro u ⟨l,hl,rfl,hll⟩
 obtain⟨m,e1,e2,e3⟩:=Z7P l hl
 exact⟨m,by rw[e1,e2],by rw[<- e2];exact hll,e3⟩
theorem fsC:Z1Z Y00 (match Y00.underlying 24 with|some (.struct fs)=>fs.toList|_=>[]) [QI,QNL] 0 (Y00.cellsOf 24):=by
 rw[Y0I]
 refine⟨rfl,Z0B Y0j,?_⟩
 refine⟨by kernel_rfl,ZcS,?_⟩
 unfold Z1Z;kernel_rfl
theorem opensC:Z6L Y00 24 λu=>∃c:Cd,u=c.av/\okC c/\∀i∈c.ins,rgL i.ex:=by
 have h3:=fsC
 rw[Y0I]at h3
 refine Z4L (Z3C Y0I h3) ?_
 rintro u ⟨us,rfl,a,u1,rfl,⟨n,rfl,_⟩,b,u2,rfl,⟨l,rfl,hl,ho⟩,h4⟩
 have h4:u2=[]:=h4
 subst h4
 exact⟨⟨n,l⟩,rfl,⟨hl,λi hi=>⟨(ho i hi).1,(ho i hi).2.1⟩⟩,λi hi=>(ho i hi).2.2⟩
theorem opensI:Z6L Y00 37 λu=>∃i:Ins,u = .agg (icells i)/\i.ex.length<=9223372036854775807/\okL i.ex/\rgL i.ex:=by
 have h3:=fsN
 rw[Y0n]at h3
 refine Z4L (Z3C Y0n h3) ?_
 rintro u ⟨us,rfl,h⟩
 obtain⟨i,rfl,h1⟩:=q_n h
 exact⟨i,rfl,h1⟩
end Go.Proofs.YthbimonbnaodkaaGreatDoor.lex.oc
end
section
namespace Go.Proofs.YthbimonbnaodkaaGreatDoor.lex
open Go.Abs Go.RowKit Go.Flat
variable {gl:Z0o}
theorem ZfD(c:Cd)(hok:okC c)(hs:∀i∈c.ins,∀e∈i.ex,Z0a e<=800000)(hc:Z2o c=0):ValOK Y00 gl 14 [c.av] (.rs c.ins.length 1 (arr (λv=>.bool (Zni (Z0v c.ins) v)) c.ins.length)):=by
 have hck:=Z1d (gl:=gl) c hok hs
 rw[hc]at hck
 have hg:=(Z2j hc).good
 obtain⟨regs,l⟩:=c
 simp only[Cd.av]at *
 have hp:=hg.pos
 have hf:=hg.few
 obtain⟨O,hO,p1,p2,-⟩:=fams (P:=Y00) (gl:=gl) [{ I:=Unit,f:=10,G:=λ_=>True,A:=λ_=>[.agg [.int .i64 regs,.rs l.length 6 (inC l)]],R:=λ_=>.int .i64 0,body:=(by kernel_rfl),inj:=λ_ _ _ _ _=>rfl,ok:=λ_ _=>⟨rfl,hck⟩ },
  { I:=Nat,f:=55,G:=λa=>a<l.length,A:=λa=>[.agg [.int .i64 regs,.rs l.length 6 (inC l)],.int .i64 a],R:=λa=>Z1a (Z0v l a),body:=(by kernel_rfl),inj:=(λi j _ _ h=>by simp only[List.cons.injEq,AV.int.injEq,and_true,true_and]at h;rw[show i=j by omega]),ok:=λa ha=>⟨rfl,Z9P regs l a ha hf (hg.to a ha)⟩ }] rfl
 have q1:∀H,Z02 Y00 O H 10 [.agg [.int .i64 regs,.rs l.length 6 (inC l)]]=some (.int .i64 0,H):=p1 () trivial
 have q2:∀a,a<l.length->∀H,Z02 Y00 O H 55 [.agg [.int .i64 regs,.rs l.length 6 (inC l)],.int .i64 a]=some (Z1a (Z0v l a),H):=p2
 clear p1 p2 hck hc
 have hm:=Zlb l.length (by omega)
 have hT:Z7e Y00 31 31=some (3,1,8):=by kernel_rfl
 have hz:∀off,off=0->spl (Z2D l.length [AV.bool false]) off [.bool true]=some (arr (λv=>.bool (upd (λ_=>false) 0 true v)) l.length):=λoff e=>by
  rw[Z2J,Z4Y _ _ hp e]
  congr 2
  funext v
  by_cases h:v=0
  ·subst h;rw[Z0b,Z0b]
  ·rw[Z09 h,Z09 h]
 simp only[Z1a]at q2
 have hnx:∀v,v<l.length->∀w∈Z0v l v,w<l.length:=λv hv w hw=>hg.nx8 hv hw
 have hlt:∀v,Rch (Z0v l) v->v<l.length:=λv hv=>hg.lt8 hv
 have h2:∀v,(Z0v l v).length<=2:=Z61 l
 clear hok hs hg
 generalize Z0v l=nx at *
 refine Z05 follows Z07 hO Tryz.func14 rfl ?_
 repeat' ((conv=>whnf);first|refine exI (q1 _) ?_|refine exI (hm _) ?_|refine exI (hz _ rfl) ?_|(with_reducible refine ixJ 0 rfl ?_ ?_;focus omega)|refine stp ?_|with_reducible apply Z01<;>intro h)
 conv=>whnf
 refine⟨(Nat->Bool)×List Nat,(λs=>Rs nx s.1 s.2/\Z1P l.length s.1 s.2<=8001),(λs=>[(1,.ptr 0 0),(3,.slice 1 0 l.length l.length 1),(4,.slice 2 0 s.2.length s.2.length 1)]),(λs=>reH regs l s.1 s.2),(λs=>Z1P l.length s.1 s.2),⟨(upd (λ_=>false) 0 true,[0]),⟨Rs.start nx,by have:=ZeF l.length (upd (λ_=>false) 0 true) [0];simp only[Y06,Y0a]at this;show Z1P _ (upd (λ_=>false) 0 true) [0]<=_;omega⟩,?_⟩,?_⟩
 · refine Y01 [0,1,2] rfl ?_ ⟨hbp,⟨rfl,rfl,rfl,rfl,Y05 (rest:=[]) (by rw[Y04]) (Z0H _ _)⟩,hbp,trivial⟩ rfl
   simp only[Y06,Y0a]
   exact wks
 rintro⟨out,stk⟩ ⟨hR,hb⟩
 dsimp only at *
 cases stk with
 |nil =>
  have ha:arr (λv=>AV.bool (out v)) l.length=arr (λv=>.bool (Zni nx v)) l.length:=by
   congr 1
   funext v
   congr 1
   rw[Y0J,Zem];exact hR.all v
  rw[<- ha]
  simp only[reH,Y0a]
  repeat' ((conv=>whnf);first|refine stp ?_|with_reducible apply Z01<;>intro h)
  all_goals (conv=>whnf)
  all_goals exact⟨_,Z1h (n:=28) (b:=1) rfl (by rw[Z2B];omega) (Zam (λ_=>rfl) _),rfl⟩
 |cons v stk =>
  have hv:=hlt v (hR.rch v (hR.mark v (by simp)))
  have hge:=Z75 l.length out (v::stk)
  simp only[Y06]at hge
  have e1:decide (((stk.length+1:Nat):Int)>0)=true:=by simp<;>omega
  have w1:IntKind.i64.wrap (((stk.length+1:Nat):Int)-1)=(stk.length:Int):=by rw[Z2r (by omega) (by omega)];omega
  have hx:∀off,off=stk.length->tk 1 ((nis (stk.reverse++[v])).drop off)=some [.int .i64 v]:=λoff e=>by
   have:=Z3Q (stk.reverse++[v]) (k:=stk.length) (by simp) e
   rw[this];simp
  have q2v:=q2 v hv
  have hnxv:=hnx v hv
  have hpop:=hR.pop
  simp only[reH,Y06,Y0z]at *
  repeat' ((conv=>whnf);first|(with_reducible refine exW w1 ?_)|refine exI (hx _ (by omega)) ?_|refine exI (q2v _) ?_|(with_reducible refine ixJ stk.length rfl ?_ ?_;focus omega)|(with_reducible refine ZoD stk.length rfl ?_ ?_;focus omega)|refine stp ?_|with_reducible apply Z01<;>intro h)
  conv=>whnf
  refine⟨(Nat->Bool)×List Nat×Nat,(λs=>Rm nx v s.2.2 s.1 s.2.1/\s.2.2<=(nx v).length/\Z1P l.length s.1 s.2.1<Z1P l.length out (v::stk)),(λs=>[(1,.ptr 0 0),(3,.slice 1 0 l.length l.length 1),(4,.slice 2 0 s.2.1.length s.2.1.length 1),(6,.rs (nx v).length 1 (nis (nx v))),(7,.int .i64 (s.2.2:Nat))]),(λs=>reH regs l s.1 s.2.1),(λs=>(nx v).length-s.2.2),⟨(out,stk,0),⟨hpop,Y0c _,Zbm⟩,?_⟩,?_⟩
  · refine Y01 [0,1,2] rfl ?_ ⟨hbp,⟨rfl,rfl,rfl,rfl,Y05 (rest:=[]) (by rw[Y04]) (Z0H _ _)⟩,⟨rfl,rfl,rfl,rfl,Y05 (rest:=[.int .i64 v]) (Z2w _ _) (Z0c _)⟩,trivial⟩ rfl
    simp only[Y06,Y0a]
    exact wks
  rintro⟨out2,stk2,j⟩ ⟨hM,hj,hl2⟩
  dsimp only at *
  simp only[reH]
  clear hx w1 e1 hge q2v
  by_cases hjt:j<(nx v).length
  · have e1:decide ((j:Int)<((nx v).length:Int))=true:=by simpa using hjt
    have hx2:∀off,off=j->tk 1 ((nis (nx v)).drop off)=some [.int .i64 ((nx v)[j]:Nat)]:=λoff e=>Z3Q (nx v) hjt e
    have hw:=Y0p hjt
    have hwl:=hnxv _ (List.getElem_mem hjt)
    have hlen:=h2 v
    generalize (nx v)[j]=w at *
    have hx3:∀off,off=w->tk 1 ((arr (λv=>AV.bool (out2 v)) l.length).drop off)=some [.bool (out2 w)]:=λoff e=>Z6I _ hwl e
    cases ho:out2 w with
    |true =>
     rw[ho]at hx3
     repeat' ((conv=>whnf);first|refine exI (hx2 _ (by omega)) ?_|refine exI (hx3 _ (by omega)) ?_|(with_reducible refine ixJ j rfl ?_ ?_;focus omega)|(with_reducible refine ixJ w rfl ?_ ?_;focus omega)|refine stp ?_|with_reducible apply Z01<;>intro h)
     conv=>whnf
     refine⟨(out2,stk2,j+1),⟨hM.old hw ho,hjt,hl2⟩,by show (nx v).length-(j+1)<(nx v).length-j;omega,?_⟩
     refine Y01 [0,1,2] rfl ?_ ⟨hbp,⟨rfl,rfl,rfl,rfl,Y05 (rest:=[]) (by rw[Y04]) (Z0H _ _)⟩,⟨rfl,rfl,rfl,rfl,Y05 (rest:=[]) (by rw[Y04]) (Z0c _)⟩,trivial⟩ rfl
     simp only[Y06]
     exact wks
    |false =>
     rw[ho]at hx3
     have hl3:=Z90 (stk:=stk2) hwl ho
     have hge:=Z75 l.length out2 stk2
     have hso:=Z4M stk2.reverse
     have hsl:=Z0w stk2.reverse
     rw[List.length_reverse]at hsl
     have hy:∀off,off=w->spl (arr (λv=>AV.bool (out2 v)) l.length) off [.bool true]=some (arr (λv=>.bool (upd out2 w true v)) l.length):=λoff e=>by
      rw[Z4Y _ _ hwl e]
      congr 2
      funext u
      by_cases h:u=w
      ·subst h;rw[Z0b,Z0b]
      ·rw[Z09 h,Z09 h]
     repeat' ((conv=>whnf);first|refine exI (hx2 _ (by omega)) ?_|refine exI (hx3 _ (by omega)) ?_|refine exI (hy _ (by omega)) ?_|(with_reducible refine ixJ j rfl ?_ ?_;focus omega)|(with_reducible refine ixJ w rfl ?_ ?_;focus omega)|(refine apS ?_)|refine stp ?_|with_reducible apply Z01<;>intro h)
     conv=>whnf
     refine⟨(upd out2 w true,w::stk2,j+1),⟨hM.push hw,hjt,by show Z1P l.length (upd out2 w true) (w::stk2)<_;omega⟩,by show (nx v).length-(j+1)<(nx v).length-j;omega,?_⟩
     refine Y01 [0,1,4] rfl ?_ ⟨hbp,⟨rfl,rfl,rfl,rfl,Y05 (rest:=[]) (by rw[Y04]) (Z0H _ _)⟩,⟨rfl,rfl,rfl,rfl,Y05 (rest:=[]) (by rw[Y04,Y0z,Z2w];rfl) (Z0c _)⟩,trivial⟩ rfl
     simp only[Y06]
     exact wks
  · have e1:decide ((j:Int)<((nx v).length:Int))=false:=by simpa using hjt
    have hj2:j=(nx v).length:=by omega
    subst hj2
    repeat' ((conv=>whnf);first|refine stp ?_|with_reducible apply Z01<;>intro h)
    conv=>whnf
    refine⟨(out2,stk2),⟨hM.fin,by show Z1P l.length out2 stk2<=_;omega⟩,by show Z1P l.length out2 stk2<Z1P l.length out (v::stk);omega,?_⟩
    refine Y01 [0,1,2] rfl ?_ ⟨hbp,⟨rfl,rfl,rfl,rfl,Y05 (rest:=[]) (by rw[Y04]) (Z0H _ _)⟩,⟨rfl,rfl,rfl,rfl,Y05 (rest:=[]) (by rw[Y04]) (Z0c _)⟩,trivial⟩ rfl
    simp only[Y06,Y0a]
    exact wks
end Go.Proofs.YthbimonbnaodkaaGreatDoor.lex
end
section
namespace Go.Proofs.YthbimonbnaodkaaGreatDoor.lex
open Go.Abs Go.RowKit Go.Flat
theorem ZcP(c:Cd)(hok:okC c)(hc:Z2o c=0):ValOK Y00 runLives.gl 35 [c.av] (.rs c.ins.length 1 (arr (λv=>.bool (Zni (Z0v c.ins) v)) c.ins.length)):=by
 have hck:=Z14 c hok
 rw[hc]at hck
 have hg:=(Z2j hc).good
 obtain⟨regs,l⟩:=c
 simp only[Cd.av]at *
 have hp:=hg.pos
 have hf:=hg.few
 obtain⟨O,hO,p1,p2,-⟩:=fams (P:=Y00) (gl:=runLives.gl) [{ I:=Unit,f:=31,G:=λ_=>True,A:=λ_=>[.agg [.int .i64 regs,.rs l.length 6 (inC l)]],R:=λ_=>.int .i64 0,body:=(by kernel_rfl),inj:=λ_ _ _ _ _=>rfl,ok:=λ_ _=>⟨rfl,hck⟩ },
  { I:=Nat,f:=94,G:=λa=>a<l.length,A:=λa=>[.agg [.int .i64 regs,.rs l.length 6 (inC l)],.int .i64 a],R:=λa=>Z1a (Z0v l a),body:=(by kernel_rfl),inj:=(λi j _ _ h=>by simp only[List.cons.injEq,AV.int.injEq,and_true,true_and]at h;rw[show i=j by omega]),ok:=λa ha=>⟨rfl,Z9O regs l a ha hf (hg.to a ha)⟩ }] rfl
 have q1:∀H,Z02 Y00 O H 31 [.agg [.int .i64 regs,.rs l.length 6 (inC l)]]=some (.int .i64 0,H):=p1 () trivial
 have q2:∀a,a<l.length->∀H,Z02 Y00 O H 94 [.agg [.int .i64 regs,.rs l.length 6 (inC l)],.int .i64 a]=some (Z1a (Z0v l a),H):=p2
 clear p1 p2 hck hc
 have hm:=Zlb l.length (by omega)
 have hT:Z7e Y00 31 31=some (3,1,8):=by kernel_rfl
 have hz:∀off,off=0->spl (Z2D l.length [AV.bool false]) off [.bool true]=some (arr (λv=>.bool (upd (λ_=>false) 0 true v)) l.length):=λoff e=>by
  rw[Z2J,Z4Y _ _ hp e]
  congr 2
  funext v
  by_cases h:v=0
  ·subst h;rw[Z0b,Z0b]
  ·rw[Z09 h,Z09 h]
 simp only[Z1a]at q2
 have hnx:∀v,v<l.length->∀w∈Z0v l v,w<l.length:=λv hv w hw=>hg.nx8 hv hw
 have hlt:∀v,Rch (Z0v l) v->v<l.length:=λv hv=>hg.lt8 hv
 have h2:∀v,(Z0v l v).length<=2:=Z61 l
 clear hok hg
 generalize Z0v l=nx at *
 refine Z05 follows Z07 hO Tryz.func35 rfl ?_
 repeat' ((conv=>whnf);first|refine exI (q1 _) ?_|refine exI (hm _) ?_|refine exI (hz _ rfl) ?_|(with_reducible refine ixJ 0 rfl ?_ ?_;focus omega)|refine stp ?_|with_reducible apply Z01<;>intro h)
 conv=>whnf
 refine⟨(Nat->Bool)×List Nat,(λs=>Rs nx s.1 s.2/\Z1P l.length s.1 s.2<=8001),(λs=>[(1,.ptr 0 0),(3,.slice 1 0 l.length l.length 1),(4,.slice 2 0 s.2.length s.2.length 1)]),(λs=>reH regs l s.1 s.2),(λs=>Z1P l.length s.1 s.2),⟨(upd (λ_=>false) 0 true,[0]),⟨Rs.start nx,by have:=ZeF l.length (upd (λ_=>false) 0 true) [0];simp only[Y06,Y0a]at this;show Z1P _ (upd (λ_=>false) 0 true) [0]<=_;omega⟩,?_⟩,?_⟩
 · refine Y01 [0,1,2] rfl ?_ ⟨hbp,⟨rfl,rfl,rfl,rfl,Y05 (rest:=[]) (by rw[Y04]) (Z0H _ _)⟩,hbp,trivial⟩ rfl
   simp only[Y06,Y0a]
   exact wks
 rintro⟨out,stk⟩ ⟨hR,hb⟩
 dsimp only at *
 cases stk with
 |nil =>
  have ha:arr (λv=>AV.bool (out v)) l.length=arr (λv=>.bool (Zni nx v)) l.length:=by
   congr 1
   funext v
   congr 1
   rw[Y0J,Zem];exact hR.all v
  rw[<- ha]
  simp only[reH,Y0a]
  repeat' ((conv=>whnf);first|refine stp ?_|with_reducible apply Z01<;>intro h)
  all_goals (conv=>whnf)
  all_goals exact⟨_,Z1h (n:=28) (b:=1) rfl (by rw[Z2B];omega) (Zam (λ_=>rfl) _),rfl⟩
 |cons v stk =>
  have hv:=hlt v (hR.rch v (hR.mark v (by simp)))
  have hge:=Z75 l.length out (v::stk)
  simp only[Y06]at hge
  have e1:decide (((stk.length+1:Nat):Int)>0)=true:=by simp<;>omega
  have w1:IntKind.i64.wrap (((stk.length+1:Nat):Int)-1)=(stk.length:Int):=by rw[Z2r (by omega) (by omega)];omega
  have hx:∀off,off=stk.length->tk 1 ((nis (stk.reverse++[v])).drop off)=some [.int .i64 v]:=λoff e=>by
   have:=Z3Q (stk.reverse++[v]) (k:=stk.length) (by simp) e
   rw[this];simp
  have q2v:=q2 v hv
  have hnxv:=hnx v hv
  have hpop:=hR.pop
  simp only[reH,Y06,Y0z]at *
  repeat' ((conv=>whnf);first|(with_reducible refine exW w1 ?_)|refine exI (hx _ (by omega)) ?_|refine exI (q2v _) ?_|(with_reducible refine ixJ stk.length rfl ?_ ?_;focus omega)|(with_reducible refine ZoD stk.length rfl ?_ ?_;focus omega)|refine stp ?_|with_reducible apply Z01<;>intro h)
  conv=>whnf
  refine⟨(Nat->Bool)×List Nat×Nat,(λs=>Rm nx v s.2.2 s.1 s.2.1/\s.2.2<=(nx v).length/\Z1P l.length s.1 s.2.1<Z1P l.length out (v::stk)),(λs=>[(1,.ptr 0 0),(3,.slice 1 0 l.length l.length 1),(4,.slice 2 0 s.2.1.length s.2.1.length 1),(34,.rs (nx v).length 1 (nis (nx v))),(35,.int .i64 (nx v).length),(36,.int .i64 (s.2.2:Nat))]),(λs=>reH regs l s.1 s.2.1),(λs=>(nx v).length-s.2.2),⟨(out,stk,0),⟨hpop,Y0c _,Zbm⟩,?_⟩,?_⟩
  · refine Y01 [0,1,2] rfl ?_ ⟨hbp,⟨rfl,rfl,rfl,rfl,Y05 (rest:=[]) (by rw[Y04]) (Z0H _ _)⟩,⟨rfl,rfl,rfl,rfl,Y05 (rest:=[.int .i64 v]) (Z2w _ _) (Z0c _)⟩,trivial⟩ rfl
    simp only[Y06,Y0a]
    exact wks
  rintro⟨out2,stk2,j⟩ ⟨hM,hj,hl2⟩
  dsimp only at *
  simp only[reH]
  clear hx w1 e1 hge q2v
  by_cases hjt:j<(nx v).length
  · have e1:decide ((j:Int)<((nx v).length:Int))=true:=by simpa using hjt
    have hx2:∀off,off=j->tk 1 ((nis (nx v)).drop off)=some [.int .i64 ((nx v)[j]:Nat)]:=λoff e=>Z3Q (nx v) hjt e
    have hw:=Y0p hjt
    have hwl:=hnxv _ (List.getElem_mem hjt)
    have hlen:=h2 v
    generalize (nx v)[j]=w at *
    have hx3:∀off,off=w->tk 1 ((arr (λv=>AV.bool (out2 v)) l.length).drop off)=some [.bool (out2 w)]:=λoff e=>Z6I _ hwl e
    cases ho:out2 w with
    |true =>
     rw[ho]at hx3
     repeat' ((conv=>whnf);first|refine exI (hx2 _ (by omega)) ?_|refine exI (hx3 _ (by omega)) ?_|(with_reducible refine ixJ j rfl ?_ ?_;focus omega)|(with_reducible refine ixJ w rfl ?_ ?_;focus omega)|refine stp ?_|with_reducible apply Z01<;>intro h)
     conv=>whnf
     refine⟨(out2,stk2,j+1),⟨hM.old hw ho,hjt,hl2⟩,by show (nx v).length-(j+1)<(nx v).length-j;omega,?_⟩
     refine Y01 [0,1,2] rfl ?_ ⟨hbp,⟨rfl,rfl,rfl,rfl,Y05 (rest:=[]) (by rw[Y04]) (Z0H _ _)⟩,⟨rfl,rfl,rfl,rfl,Y05 (rest:=[]) (by rw[Y04]) (Z0c _)⟩,trivial⟩ rfl
     simp only[Y06]
     exact wks
    |false =>
     rw[ho]at hx3
     have hl3:=Z90 (stk:=stk2) hwl ho
     have hge:=Z75 l.length out2 stk2
     have hso:=Z4M stk2.reverse
     have hsl:=Z0w stk2.reverse
     rw[List.length_reverse]at hsl
     have hy:∀off,off=w->spl (arr (λv=>AV.bool (out2 v)) l.length) off [.bool true]=some (arr (λv=>.bool (upd out2 w true v)) l.length):=λoff e=>by
      rw[Z4Y _ _ hwl e]
      congr 2
      funext u
      by_cases h:u=w
      ·subst h;rw[Z0b,Z0b]
      ·rw[Z09 h,Z09 h]
     repeat' ((conv=>whnf);first|refine exI (hx2 _ (by omega)) ?_|refine exI (hx3 _ (by omega)) ?_|refine exI (hy _ (by omega)) ?_|(with_reducible refine ixJ j rfl ?_ ?_;focus omega)|(with_reducible refine ixJ w rfl ?_ ?_;focus omega)|(refine apS ?_)|refine stp ?_|with_reducible apply Z01<;>intro h)
     conv=>whnf
     refine⟨(upd out2 w true,w::stk2,j+1),⟨hM.push hw,hjt,by show Z1P l.length (upd out2 w true) (w::stk2)<_;omega⟩,by show (nx v).length-(j+1)<(nx v).length-j;omega,?_⟩
     refine Y01 [0,1,4] rfl ?_ ⟨hbp,⟨rfl,rfl,rfl,rfl,Y05 (rest:=[]) (by rw[Y04]) (Z0H _ _)⟩,⟨rfl,rfl,rfl,rfl,Y05 (rest:=[]) (by rw[Y04,Y0z,Z2w];rfl) (Z0c _)⟩,trivial⟩ rfl
     simp only[Y06]
     exact wks
  · have e1:decide ((j:Int)<((nx v).length:Int))=false:=by simpa using hjt
    have hj2:j=(nx v).length:=by omega
    subst hj2
    repeat' ((conv=>whnf);first|refine stp ?_|with_reducible apply Z01<;>intro h)
    conv=>whnf
    refine⟨(out2,stk2),⟨hM.fin,by show Z1P l.length out2 stk2<=_;omega⟩,by show Z1P l.length out2 stk2<Z1P l.length out (v::stk);omega,?_⟩
    refine Y01 [0,1,2] rfl ?_ ⟨hbp,⟨rfl,rfl,rfl,rfl,Y05 (rest:=[]) (by rw[Y04]) (Z0H _ _)⟩,⟨rfl,rfl,rfl,rfl,Y05 (rest:=[]) (by rw[Y04]) (Z0c _)⟩,trivial⟩ rfl
    simp only[Y06,Y0a]
    exact wks
end Go.Proofs.YthbimonbnaodkaaGreatDoor.lex
end
section
namespace Go.Proofs.YthbimonbnaodkaaGreatDoor.lex
open Go.Abs Go.RowKit Go.Flat
def Z3U{gl:Z0o}{f:Nat}{A:List AV}{R:AV}(hb:Z0l Y00 f=true)(hr:refsL A []=[])(h:ValOK Y00 gl f A R):Fam Y00 gl:={ I:=Unit,f:=f,G:=λ_=>True,A:=λ_=>A,R:=λ_=>R,body:=hb,inj:=(λ_ _ _ _ _=>rfl),ok:=(λ_ _=>⟨hr,h⟩) }
mutual
theorem ZeM:∀(e:Ex)(l l':Int),0<=Z0X e l->l<=l'->Z0X e l<=Z0X (Z1b e) l'
 | .mk op num name kids,l,l',h,hl=>by
  simp only[Z0X,Z1b]at h⊢
  have h1:(if op=2 then Z8Z name else name).length / 20<=name.length / 20:=by
   split
   ·have:=Zhw name;omega
   ·exact Y02 _
  exact heftL_nam kids _ _ h (by omega)
theorem heftL_nam:∀(k:List Ex)(l l':Int),0<=heftL k l->l<=l'->heftL k l<=heftL (namL k) l'
 |[],l,l',h,hl=>by simp only[heftL,namL];exact hl
 |e::k,l,l',h,hl=>by
  simp only[heftL,namL]at h⊢
  split at h
  · rename_i h0
    rw[if_pos h0,if_pos (by omega)]
    have h1:0<=Z0X e l:=by have:=heftL_le k (Z0X e l);omega
    exact heftL_nam k _ _ h (ZeM e l l' h1 hl)
  ·omega
end
theorem ZkV{e:Ex}(hg:rgE e)(h:0<=Z0X e 60):(wrE (Z1b e)).length<=4000:=by
 have h1:=ZeM e 60 60 h (Int.le_refl _)
 have h2:=Zgn (Z1b e) 60 (Z7E e hg) (by omega)
 omega
theorem Zkw{L:List Ex}(hg:rgL L)(h:∀e∈L,0<=Z0X e 60):(Z37 L).length<=L.length*4003:=by
 induction L with
 |nil=>simp[Z37]
 |cons e L ih =>
  simp only[rgL]at hg
  have h1:=ih hg.2 (λx hx=>h x (by simp[hx]))
  have h2:=ZkV hg.1 (h e (by simp))
  simp only[Z37,Y06,Y0b]
  omega
theorem Z6Z(b:Bool)(l:List (List UInt8)):(Z1T b l).length<=l.flatten.length:=by
 unfold Z1T;split
 ·exact Y02 _
 ·simp
theorem Zki{c:Cd}(hf:Fine c)(hg:∀i∈c.ins,rgL i.ex)(hl:∀i∈c.ins,ltI i=true){n:Nat}(hn:n<c.ins.length):(Zkj n (Z6O c.ins n)).length<=20000:=by
 rw[Z15 hn]
 have h1:=hl _ (Z03 hn)
 have h2:=hg _ (Z03 hn)
 have h3:=hf.right _ (Z03 hn)
 have h4:=hf.good.few
 have h5:=hf.reg1
 generalize c.ins[n]=i at *
 obtain⟨kd,rg,lo,od,to,ex⟩:=i
 unfold ltI at h1
 simp only[Y07,decide_eq_true_eq]at h1
 have h6:=Zkw h2 (λe he=>by simpa using Y0s.1 h1.2 e he)
 simp only[Z0y,Y07,decide_eq_true_eq]at h3
 obtain⟨hkd,g1,g2,g3,g4,g5,g6⟩:=h3
 have ra:0<=rg/\rg<4000:=by
  unfold inW at g1;split at g1
  ·simp only[Y07,decide_eq_true_eq]at g1;omega
  ·have g1:=eq_of_beq g1;omega
 have rb:0<=lo/\lo<4000:=by
  unfold inW at g2;split at g2
  ·simp only[Y07,decide_eq_true_eq]at g2;omega
  ·have g2:=eq_of_beq g2;omega
 have rd:0<=to/\to<=4000:=by
  unfold inW at g4;split at g4
  ·simp only[Y07,decide_eq_true_eq]at g4;omega
  ·have g4:=eq_of_beq g4;omega
 have l0:(Z3V n).length<=20:=Zaf 19 n (by omega)
 have l1:(Z1W rg).length<=20:=Z1v ⟨by omega,by omega⟩
 have l2:(Z1W lo).length<=20:=Z1v ⟨by omega,by omega⟩
 have l3:=ZcR od
 have l4:(Z1W to).length<=20:=Z1v ⟨by omega,by omega⟩
 have l5:=Z9r kd
 have p1:=Z6Z (Z0R kd) [[32,114],Z1W rg]
 have p2:=Z6Z (Z3o kd) [[32,120],Z1W lo]
 have p3:=Z6Z (Z5p kd) [[32],Zb5 od]
 have p4:=Z6Z (toB kd) [[32,64],Z1W to]
 unfold Zkj Zo3 ZjO Zm3 Zmo orT toT
 simp only[Y0b,Y0x,Y0y,Y06,Y0a]at *
 omega
theorem ZnD{c:Cd}(hok:okC c)(hg:∀i∈c.ins,rgL i.ex)(h0:Z2o c=0)(h:ltC c 80=true):Tld c:=by
 have hf:=Z2j h0
 have hs:=Z9T h
 unfold ltC at h
 simp only[Y07,decide_eq_true_eq]at h
 have hl:∀i∈c.ins,ltI i=true:=λi hi=>Y0s.1 h.2 i hi
 refine⟨hok,λi hi e he=>ZcO (hg i hi) e he,hs.2,λi hi e he=>?_,λn hn=>?_⟩
 · have h1:=hl i hi
   unfold ltI at h1
   simp only[Y07,decide_eq_true_eq]at h1
   have:=ZkV (ZcO (hg i hi) e he) (by simpa using Y0s.1 h1.2 e he)
   omega
 · have key : ∀ n, n <= c.ins.length -> (cdT c.ins n).length <= n * 20000 := by
    intro n
    induction n with
    |zero=>intro _;simp[cdT]
    |succ n ih =>
     intro hn
     have h1:=ih (by omega)
     have h2:=Zki hf hg hl hn
     simp only[cdT,Y0b]
     omega
   have:=key n hn
   have:=hs.1
   omega
section any
variable {c:Cd}
theorem Zez:wkV .nslice (Z1a [])=true:=rfl
def nxA(c:Cd)(at_:Int):List Nat:=if Z2o c=0/\0<=at_/\at_<c.ins.length then Z0v c.ins at_.toNat else []
theorem Zhs(hok:okC c)(a:Int):ValOK Y00 runLives.gl 32 [c.av,.int .i64 a] (Z1a (nxA c a)):=by
 have hck:=Z14 c hok
 unfold nxA
 by_cases h:Z2o c=0/\0<=a/\a<c.ins.length
 · rw[if_pos h]
   obtain⟨n,rfl⟩:∃n:Nat,a=n:=⟨a.toNat,by omega⟩
   rw[Y0G]
   exact Z9N c hok h.1 n (by omega)
 · rw[if_neg h]
   refine ValOK.res (r:=.nslice) ?_ Zez
   obtain⟨O,hO,p1,-⟩:=fams (P:=Y00) (gl:=runLives.gl) [Z3U (by kernel_rfl) rfl hck] rfl
   have q1:∀H,Z02 Y00 O H 31 [c.av]=some (.int .i64 (Z2o c),H):=p1 () trivial
   clear p1 hck
   generalize Z2o c=ck at *
   obtain⟨regs,l⟩:=c
   simp only[Cd.av]at *
   refine Z05 follows Z07 hO Tryz.func32 rfl ?_
   by_cases h0:ck=0
   · subst h0
     by_cases h1:a<0
     · have e1:decide (a<0)=true:=by simpa using h1
       repeat' ((conv=>whnf);first|refine exI (q1 _) ?_|refine stp ?_|with_reducible apply Z01<;>intro h)
       all_goals rfl
     · have e1:decide (a<0)=false:=by simpa using h1
       have e2:decide (a >= (l.length:Int))=true:=by
        rw[decide_eq_true_eq]
        have:¬(0<=a/\a<(l.length:Int)):=λh2=>h ⟨rfl,h2⟩
        omega
       repeat' ((conv=>whnf);first|refine exI (q1 _) ?_|refine stp ?_|with_reducible apply Z01<;>intro h)
       all_goals rfl
   · have e1:(ck != 0)=true:=by simpa using h0
     repeat' ((conv=>whnf);first|refine exI (q1 _) ?_|refine stp ?_|with_reducible apply Z01<;>intro h)
     all_goals rfl
theorem Zht(hok:okC c)(hs:∀i∈c.ins,∀e∈i.ex,Z0a e<=800000)(a:Int):ValOK Y00 runLives.gl 33 [c.av,.int .i64 a] (Z1a (nxA c a)):=by
 have hck:=Z1d (gl:=runLives.gl) c hok hs
 have hn8:=λ(n:Nat) (h0:Z2o c=0) (hn:n<c.ins.length)=>Z9P (gl:=runLives.gl) c.regs c.ins n hn (Z2j h0).good.few ((Z2j h0).good.to n hn)
 unfold nxA
 by_cases h:Z2o c=0/\0<=a/\a<c.ins.length
 · rw[if_pos h]
   obtain⟨n,rfl⟩:∃n:Nat,a=n:=⟨a.toNat,by omega⟩
   rw[Y0G]
   have hn:=hn8 n h.1 (by omega)
   rw[h.1]at hck
   obtain⟨O,hO,p1,p2,-⟩:=fams (P:=Y00) (gl:=runLives.gl) [Z3U (by kernel_rfl) rfl hck,Z3U (by kernel_rfl) rfl hn] rfl
   have q1:∀H,Z02 Y00 O H 10 [c.av]=some (.int .i64 0,H):=p1 () trivial
   have q2:∀H,Z02 Y00 O H 55 [.agg [.int .i64 c.regs,.rs c.ins.length 6 (inC c.ins)],.int .i64 n]=some (Z1a (Z0v c.ins n),H):=p2 () trivial
   clear p1 p2 hck hn hn8
   have hlt:=h.2.2
   generalize Z0v c.ins n=L at *
   obtain⟨regs,l⟩:=c
   simp only[Cd.av,Z1a]at *
   have e1:decide ((n:Int)<0)=false:=by simp
   have e2:decide ((n:Int) >= (l.length:Int))=false:=by simp;omega
   refine Z05 follows Z07 hO Tryz.func33 rfl ?_
   repeat' ((conv=>whnf);first|refine exI (q1 _) ?_|refine exI (q2 _) ?_|refine stp ?_|with_reducible apply Z01<;>intro h)
   all_goals rfl
 · rw[if_neg h]
   refine ValOK.res (r:=.nslice) ?_ Zez
   obtain⟨O,hO,p1,-⟩:=fams (P:=Y00) (gl:=runLives.gl) [Z3U (by kernel_rfl) rfl hck] rfl
   have q1:∀H,Z02 Y00 O H 10 [c.av]=some (.int .i64 (Z2o c),H):=p1 () trivial
   clear p1 hck hn8
   generalize Z2o c=ck at *
   obtain⟨regs,l⟩:=c
   simp only[Cd.av]at *
   refine Z05 follows Z07 hO Tryz.func33 rfl ?_
   by_cases h0:ck=0
   · subst h0
     by_cases h1:a<0
     · have e1:decide (a<0)=true:=by simpa using h1
       repeat' ((conv=>whnf);first|refine exI (q1 _) ?_|refine stp ?_|with_reducible apply Z01<;>intro h)
       all_goals rfl
     · have e1:decide (a<0)=false:=by simpa using h1
       have e2:decide (a >= (l.length:Int))=true:=by
        rw[decide_eq_true_eq]
        have:¬(0<=a/\a<(l.length:Int)):=λh2=>h ⟨rfl,h2⟩
        omega
       repeat' ((conv=>whnf);first|refine exI (q1 _) ?_|refine stp ?_|with_reducible apply Z01<;>intro h)
       all_goals rfl
   · have e1:(ck != 0)=true:=by simpa using h0
     repeat' ((conv=>whnf);first|refine exI (q1 _) ?_|refine stp ?_|with_reducible apply Z01<;>intro h)
     all_goals rfl
theorem Zh7(hok:okC c)(h:Z2o c≠0):ValOK Y00 runLives.gl 35 [c.av] .nslice:=by
 have hck:=Z14 c hok
 obtain⟨O,hO,p1,-⟩:=fams (P:=Y00) (gl:=runLives.gl) [Z3U (by kernel_rfl) rfl hck] rfl
 have q1:∀H,Z02 Y00 O H 31 [c.av]=some (.int .i64 (Z2o c),H):=p1 () trivial
 clear p1 hck
 generalize Z2o c=ck at *
 obtain⟨regs,l⟩:=c
 simp only[Cd.av]at *
 have e1:(ck != 0)=true:=by simpa using h
 refine Z05 follows Z07 hO Tryz.func35 rfl ?_
 repeat' ((conv=>whnf);first|refine exI (q1 _) ?_|refine stp ?_|with_reducible apply Z01<;>intro h)
 all_goals rfl
theorem Zk6(hok:okC c)(h:Z2o c≠0):ValOK Y00 runLives.gl 41 [c.av] .nslice:=by
 have hck:=Z14 c hok
 obtain⟨O,hO,p1,-⟩:=fams (P:=Y00) (gl:=runLives.gl) [Z3U (by kernel_rfl) rfl hck] rfl
 have q1:∀H,Z02 Y00 O H 31 [c.av]=some (.int .i64 (Z2o c),H):=p1 () trivial
 clear p1 hck
 generalize Z2o c=ck at *
 obtain⟨regs,l⟩:=c
 simp only[Cd.av]at *
 have e1:(ck != 0)=true:=by simpa using h
 refine Z05 follows Z07 hO Tryz.func41 rfl ?_
 repeat' ((conv=>whnf);first|refine exI (q1 _) ?_|refine stp ?_|with_reducible apply Z01<;>intro h)
 all_goals rfl
theorem Zjm(hok:okC c)(h:Z2o c≠0):ValOK Y00 runLives.gl 29 [c.av] (.tuple [.str [],.int .i64 (Z2o c)]):=by
 have hck:=Z14 c hok
 obtain⟨O,hO,p1,-⟩:=fams (P:=Y00) (gl:=runLives.gl) [Z3U (by kernel_rfl) rfl hck] rfl
 have q1:∀H,Z02 Y00 O H 31 [c.av]=some (.int .i64 (Z2o c),H):=p1 () trivial
 clear p1 hck
 generalize Z2o c=ck at *
 obtain⟨regs,l⟩:=c
 simp only[Cd.av]at *
 have e1:(ck != 0)=true:=by simpa using h
 refine Z05 follows Z07 hO Tryz.func29 rfl ?_
 repeat' ((conv=>whnf);first|refine exI (q1 _) ?_|refine stp ?_|with_reducible apply Z01<;>intro h)
 all_goals rfl
variable (hs:∀i∈c.ins,∀e∈i.ex,Z0a e<=800000)
include hs
theorem Zh8(hok:okC c)(h:Z2o c≠0):ValOK Y00 runLives.gl 14 [c.av] .nslice:=by
 have hck:=Z1d (gl:=runLives.gl) c hok hs
 obtain⟨O,hO,p1,-⟩:=fams (P:=Y00) (gl:=runLives.gl) [Z3U (by kernel_rfl) rfl hck] rfl
 have q1:∀H,Z02 Y00 O H 10 [c.av]=some (.int .i64 (Z2o c),H):=p1 () trivial
 clear p1 hck hs
 generalize Z2o c=ck at *
 obtain⟨regs,l⟩:=c
 simp only[Cd.av]at *
 have e1:(ck != 0)=true:=by simpa using h
 refine Z05 follows Z07 hO Tryz.func14 rfl ?_
 repeat' ((conv=>whnf);first|refine exI (q1 _) ?_|refine stp ?_|with_reducible apply Z01<;>intro h)
 all_goals rfl
theorem Zk7(hok:okC c)(h:Z2o c≠0):ValOK Y00 runLives.gl 42 [c.av] .nslice:=by
 have hck:=Z1d (gl:=runLives.gl) c hok hs
 obtain⟨O,hO,p1,-⟩:=fams (P:=Y00) (gl:=runLives.gl) [Z3U (by kernel_rfl) rfl hck] rfl
 have q1:∀H,Z02 Y00 O H 10 [c.av]=some (.int .i64 (Z2o c),H):=p1 () trivial
 clear p1 hck hs
 generalize Z2o c=ck at *
 obtain⟨regs,l⟩:=c
 simp only[Cd.av]at *
 have e1:(ck != 0)=true:=by simpa using h
 refine Z05 follows Z07 hO Tryz.func42 rfl ?_
 repeat' ((conv=>whnf);first|refine exI (q1 _) ?_|refine stp ?_|with_reducible apply Z01<;>intro h)
 all_goals rfl
theorem Zjn(hok:okC c)(h:Z2o c≠0):ValOK Y00 runLives.gl 30 [c.av] (.tuple [.str [],.int .i64 (Z2o c)]):=by
 have hck:=Z1d (gl:=runLives.gl) c hok hs
 obtain⟨O,hO,p1,-⟩:=fams (P:=Y00) (gl:=runLives.gl) [Z3U (by kernel_rfl) rfl hck] rfl
 have q1:∀H,Z02 Y00 O H 10 [c.av]=some (.int .i64 (Z2o c),H):=p1 () trivial
 clear p1 hck hs
 generalize Z2o c=ck at *
 obtain⟨regs,l⟩:=c
 simp only[Cd.av]at *
 have e1:(ck != 0)=true:=by simpa using h
 refine Z05 follows Z07 hO Tryz.func30 rfl ?_
 repeat' ((conv=>whnf);first|refine exI (q1 _) ?_|refine stp ?_|with_reducible apply Z01<;>intro h)
 all_goals rfl
end any
end Go.Proofs.YthbimonbnaodkaaGreatDoor.lex
end
section
namespace Go.Abs
open Go.RowKit
open Classical in
theorem Zd1 {P : Program} {gl : Z0o} {I : Type} {f0 : Nat} {G : I -> Prop} {A : I -> List AV} {R : I -> AV} (hr : ∀ i, G i -> plain (R i) = true) (hi : ∀ i j, G i -> G j -> A i = A j -> R i = R j) (hv : ∀ i, G i -> ValOK P gl f0 (A i) (R i)) (hb : Z0l P f0 = true) {O : Orc} (hO : OrcSound P gl O) :
  ∃O',OrcSound P gl O'/\(∀i,G i->∀H args,Z0T (frz H 30) args=some (A i)->Z02 P O' H f0 args=some (R i,H))/\∀g,g≠f0->∀args H,Z02 P O' H g args=Z02 P O H g args:=by
 have hz:OrcSound P gl (Z9K λf args=>if h:∃i,f=f0/\G i/\A i=args then some (R (Classical.choose h)) else none):=Z1z λf args r h=>by
  split at h
  · rename_i e
    have hsp:=Classical.choose_spec e
    cases h
    generalize Classical.choose e=i at *
    obtain⟨e1,e2,e3⟩:=hsp
    have:=hv _ e2
    rw[e3]at this
    exact⟨hr _ e2,by rw[e1];exact this⟩
  ·cases h
 refine⟨Z3B (Z9K λf args=>if h:∃i,f=f0/\G i/\A i=args then some (R (Classical.choose h)) else none) O,Z2v hz hO,λi gi H args ha=>callOr1 hb (Zaj hb ha ?_),λg hg args H=>?_⟩
 · have h:∃j,f0=f0/\G j/\A j=A i:=⟨i,rfl,gi,rfl⟩
   rw[dif_pos h]
   obtain⟨e1,e2,e3⟩:=Classical.choose_spec h
   rw[hi _ _ e2 gi e3]
 · unfold Z02
   have h1:Z3B (Z9K λf args=>if h:∃i,f=f0/\G i/\A i=args then some (R (Classical.choose h)) else none) O g=O g:=by
    funext args H
    unfold Z3B Z9K
    cases Z0T (frz H 30) args with
    |none=>rfl
    |some fa=>simp only;rw[dif_neg (λ⟨_,h,_⟩=>hg h)]
   have hy:yl (Z3B (Z9K λf args=>if h:∃i,f=f0/\G i/\A i=args then some (R (Classical.choose h)) else none) O) H g args=yl O H g args:=by unfold yl;simp only[h1]
   rw[h1,hy]
end Go.Abs
end
section
namespace Go.Proofs.YthbimonbnaodkaaGreatDoor.lex
open Go.Abs Go.RowKit Go.Flat
def Znm:List UInt8:=[48,32,108,111,97,100,32,114,48,32,120,48,32,97,99,113,10,49,32,98,114,97,110,99,104,32,64,51,32,40,114,48,32,61,61,32,49,41,10,50,32,115,116,111,114,101,32,120,48,32,114,101,108,32,40,114,48,32,43,32,49,41,10,51,32,100,111,110,101,10]
theorem dgs:Z3V 0=[48]/\Z3V 1=[49]/\Z3V 2=[50]/\Z3V 3=[51]:=⟨Z4V (by decide),Z4V (by decide),Z4V (by decide),Z4V (by decide)⟩
theorem ZhH:wrE (Z1b (.mk 7 0 [] [Zbj,Zbk]))=[114,48,32,61,61,32,49]:=by
 have h0:Z1W 1=[49]:=dgs.2.1
 have h1:Z8Z [48]=[114,48]:=by decide
 simp[Zbj,Zbk,Z1b,namL,wrE,wrL,wrC,h0,h1,brk,lev,Z5T]
 decide
theorem ZhG:wrE (Z1b (.mk 14 0 [] [Zbj,Zbk]))=[114,48,32,43,32,49]:=by
 have h0:Z1W 1=[49]:=dgs.2.1
 have h1:Z8Z [48]=[114,48]:=by decide
 simp[Zbj,Zbk,Z1b,namL,wrE,wrL,wrC,h0,h1,brk,lev,Z5T]
 decide
theorem Zld:cdT Z1D 4=Znm:=by
 obtain⟨d0,d1,d2,d3⟩:=dgs
 have i0:Z1W 0=[48]:=d0
 have i3:Z1W 3=[51]:=d3
 simp[cdT,Zkj,Zo3,ZjO,Zm3,Zmo,orT,toT,Z6O,Z1D,Z37,ZhH,ZhG,d0,d1,d2,d3,i0,i3,Z1T,Z0R,Z3o,Z5p,toB,Z54,Zb5,Znm]
theorem Zmq:Tld linC:=by
 refine⟨Zbi,?_,Zka,?_,?_⟩
 ·simp[linC,Z1D,Zbj,Zbk,rgE,rgL,rgI]
 · intro i hi e he
   simp[linC,Z1D]at hi
   rcases hi with rfl|rfl|rfl|rfl
   ·simp at he
   ·simp at he;subst he;rw[ZhH];simp
   ·simp at he;subst he;rw[ZhG];simp
   ·simp at he
 · intro n hn
   have h4:(cdT Z1D 4).length<=1000000000:=by rw[Zld];decide
   have hm:∀a b,a<=b->(cdT Z1D a).length<=(cdT Z1D b).length:=by
    intro a b hab
    induction b with
    | zero => have : a = 0 := by omega
              subst this;exact Y02 _
    |succ b ih =>
     by_cases h:a=b+1
     ·subst h;exact Y02 _
     · have:=ih (by omega)
       simp only[cdT,Y0b];omega
   have hn4:n<=4:=hn
   exact Nat.le_trans (hm n 4 hn4) h4
theorem Zlc(op:Int):ursL [.mk op 0 [] [Zbj,Zbk]]=if op=2 then ursL [.mk 2 0 [] [Zbj,Zbk]] else [0]:=by
 have hn:Z1c [48]=0:=by decide
 have hz:Z1c [] = -1:=rfl
 split
 ·rename_i h;rw[h]
 · rename_i h
   simp[ursL,Zfq,Zbj,Zbk,Zer,hn,hz]
theorem ZhI:(Lib.compact (([0]:List Int).mergeSort leI)).map Int.toNat=[0]:=by
 rw[List.mergeSort_singleton];rfl
theorem Zk9(v:Nat):ZhT Z1D v=if v=1\/v=2 then [0] else []:=by
 unfold ZhT Z1w Z6O
 match v with
 |0=>simp[Z1D,ursL];rfl
 |1 =>
  have:ursL [.mk 7 0 [] [Zbj,Zbk]]=[0]:=by rw[Zlc];simp
  show (Lib.compact ((ursL [.mk 7 0 [] [Zbj,Zbk]]).mergeSort leI)).map Int.toNat=_
  rw[this,ZhI];rfl
 |2 =>
  have:ursL [.mk 14 0 [] [Zbj,Zbk]]=[0]:=by rw[Zlc];simp
  show (Lib.compact ((ursL [.mk 14 0 [] [Zbj,Zbk]]).mergeSort leI)).map Int.toNat=_
  rw[this,ZhI];rfl
 |3=>simp[Z1D,ursL];rfl
 |v+4=>simp[Z1D,ursL];rfl
theorem ZcV(r:Nat):¬Go.Live.Lv (usU Z1D) (stU Z1D) (Z0v Z1D) r 3:=by
 intro h
 generalize hv:(3:Nat)=v at h
 cases h with
 |use h =>
  subst hv
  unfold usU at h
  rw[Zk9]at h
  simp[Go.Live.maskL]at h
 |next hw _ _ =>
  subst hv
  have:Z0v Z1D 3=[]:=rfl
  rw[this]at hw;cases hw
theorem Zmr{r:Nat}(h:Go.Live.Lv (usU Z1D) (stU Z1D) (Z0v Z1D) r 2):r=0:=by
 generalize hv:(2:Nat)=v at h
 cases h with
 |use h =>
  subst hv
  unfold usU at h
  rw[Go.Live.maskL_bit,Zk9]at h
  simpa using h
 |next hw h2 _ =>
  subst hv
  have:Z0v Z1D 2=[3]:=rfl
  rw[this,Y0F]at hw
  subst hw
  exact absurd h2 (ZcV r)
theorem Zms{r:Nat}:Go.Live.Lv (usU Z1D) (stU Z1D) (Z0v Z1D) r 1 ↔ r=0:=by
 constructor
 · intro h
   generalize hv:(1:Nat)=v at h
   cases h with
   |use h =>
    subst hv
    unfold usU at h
    rw[Go.Live.maskL_bit,Zk9]at h
    simpa using h
   |next hw h2 _ =>
    subst hv
    have:Z0v Z1D 1=[2,3]:=rfl
    rw[this]at hw
    simp only[List.mem_cons,List.not_mem_nil,or_false]at hw
    rcases hw with rfl|rfl
    ·exact Zmr h2
    ·exact absurd h2 (ZcV r)
 · rintro rfl
   refine .use ?_
   unfold usU
   rw[Go.Live.maskL_bit,Zk9];simp
theorem ZhK:Go.Live.liveL (usU Z1D) (stU Z1D) (Z0v Z1D) 1=[0]:=by
 unfold Go.Live.liveL
 have h:(List.range 32).filter (Go.Live.lvB (usU Z1D) (stU Z1D) (Z0v Z1D) 1)=(List.range 32).filter λr=>decide (r=0) :=
  List.filter_congr λr _=>by rw[Y0J,Go.Live.lvB_iff,Zms,decide_eq_true_eq]
 rw[h];decide
theorem ZhJ:Go.Live.liveL (usU Z1D) (stU Z1D) (Z0v Z1D) 3=[]:=by
 unfold Go.Live.liveL
 rw[List.filter_eq_nil_iff]
 intro r _ h
 exact ZcV r (Go.Live.lvB_iff.1 h)
theorem exN{P:Program}{O:Orc}{H:Z00}{args:List AV}{K:AV×Z00->Prop}(h:Z02 P O H 23 args=some (.bool true,H))(k:K (.bool true,H)):∃y,Z02 P O H 23 args=some y/\K y:=⟨_,h,k⟩
set_option maxHeartbeats 80000000 in
theorem ZnZ:ValOK Y00 runLives.gl 28 [] (.bool true):=by
 have a1:=Zk8 (gl:=runLives.gl)
 have h0:=Zmt
 have a2:=Zbq linC Zmq h0
 rw[show cdT linC.ins linC.ins.length=Znm from Zld]at a2
 have a3:=ZeD linC Zbi h0 (by simp[linC,Z1D,Zbj,Zbk,Z0a,sizeL])
 have a4:=Z14 linC Zbi
 rw[h0]at a4
 have a5:=Z9N linC Zbi h0 1 (by decide)
 have a6:=Z9N linC Zbi h0 3 (by decide)
 have e3:arr (λv=>Z1a (Go.Live.liveL (usU linC.ins) (stU linC.ins) (Z0v linC.ins) v)) linC.ins.length=[Z1a (Go.Live.liveL (usU Z1D) (stU Z1D) (Z0v Z1D) 0),.rs 1 1 [.int .i64 0],Z1a (Go.Live.liveL (usU Z1D) (stU Z1D) (Z0v Z1D) 2),.rs 0 1 []]:=by
  show [Z1a (Go.Live.liveL (usU Z1D) (stU Z1D) (Z0v Z1D) 0),Z1a (Go.Live.liveL (usU Z1D) (stU Z1D) (Z0v Z1D) 1),Z1a (Go.Live.liveL (usU Z1D) (stU Z1D) (Z0v Z1D) 2),Z1a (Go.Live.liveL (usU Z1D) (stU Z1D) (Z0v Z1D) 3)]=_
  rw[ZhK,ZhJ];rfl
 rw[e3]at a3
 generalize Z1a (Go.Live.liveL (usU Z1D) (stU Z1D) (Z0v Z1D) 0)=L0 at *
 generalize Z1a (Go.Live.liveL (usU Z1D) (stU Z1D) (Z0v Z1D) 2)=L2 at *
 obtain⟨CL,hCL⟩:∃CL,inC Z1D=CL:=⟨_,rfl⟩
 obtain⟨LT,hLT⟩:∃LT,Znm=LT:=⟨_,rfl⟩
 have b1:ValOK Y00 runLives.gl 76 [] (.agg [.int .i64 1,.rs 4 6 CL]):=by rw[<- hCL];exact a1
 have b2:ValOK Y00 runLives.gl 29 [.agg [.int .i64 1,.rs 4 6 CL]] (.tuple [.str Znm,.int .i64 0]):=by rw[<- hCL];exact a2
 have b3:ValOK Y00 runLives.gl 41 [.agg [.int .i64 1,.rs 4 6 CL]] (.rs 4 1 [L0,.rs 1 1 [.int .i64 0],L2,.rs 0 1 []]):=by rw[<- hCL];exact a3
 have b4:ValOK Y00 runLives.gl 31 [.agg [.int .i64 1,.rs 4 6 CL]] (.int .i64 0):=by rw[<- hCL];exact a4
 have b5:ValOK Y00 runLives.gl 32 [.agg [.int .i64 1,.rs 4 6 CL],.int .i64 1] (.rs 2 1 [.int .i64 2,.int .i64 3]):=by rw[<- hCL];exact a5
 have b6:ValOK Y00 runLives.gl 32 [.agg [.int .i64 1,.rs 4 6 CL],.int .i64 3] (.rs 0 1 []):=by rw[<- hCL];exact a6
 clear a1 a2 a3 a4 a5 a6 e3 hCL h0 hLT
 obtain⟨O1,hO1,p1,p2,p3,p4,p5,-⟩:=fams (P:=Y00) (gl:=runLives.gl) [Z3U (by kernel_rfl) rfl b1,Z3U (by kernel_rfl) rfl b2,Z3U (by kernel_rfl) rfl b3,Z3U (by kernel_rfl) rfl b4,
  { I:=Bool,f:=32,G:=λ_=>True,A:=λb=>[.agg [.int .i64 1,.rs 4 6 CL],.int .i64 (if b then 1 else 3)],R:=λb=>if b then .rs 2 1 [.int .i64 2,.int .i64 3] else .rs 0 1 [],body:=(by kernel_rfl),inj:=(λx y _ _ h=>by cases x<;>cases y<;>first|rfl|simp at h),ok:=(λb _=>by cases b;exact⟨rfl,b6⟩;exact⟨rfl,b5⟩) }] rfl
 obtain⟨O,hO,pl,kq⟩:=Zd1 (P:=Y00) (gl:=runLives.gl) (I:=List Nat) (f0:=23) (G:=λl=>l.length<=1048576) (A:=λl=>[Z1a l,Z1a l]) (R:=λl=>.bool true) (λ_ _=>rfl) (λx y _ _ h=>rfl) (λl h=>Z7L l h) (by kernel_rfl) hO1
 have q1:∀H,Z02 Y00 O H 76 []=some (.agg [.int .i64 1,.rs 4 6 CL],H):=λH=>(kq _ (by decide) _ H).trans (p1 () trivial H)
 have q2:∀H,Z02 Y00 O H 29 [.agg [.int .i64 1,.rs 4 6 CL]]=some (.tuple [.str Znm,.int .i64 0],H):=λH=>(kq _ (by decide) _ H).trans (p2 () trivial H)
 have q3:∀H,Z02 Y00 O H 41 [.agg [.int .i64 1,.rs 4 6 CL]]=some (.rs 4 1 [L0,.rs 1 1 [.int .i64 0],L2,.rs 0 1 []],H):=λH=>(kq _ (by decide) _ H).trans (p3 () trivial H)
 have q4:∀H,Z02 Y00 O H 31 [.agg [.int .i64 1,.rs 4 6 CL]]=some (.int .i64 0,H):=λH=>(kq _ (by decide) _ H).trans (p4 () trivial H)
 have q5:∀H,Z02 Y00 O H 32 [.agg [.int .i64 1,.rs 4 6 CL],.int .i64 1]=some (.rs 2 1 [.int .i64 2,.int .i64 3],H):=λH=>(kq _ (by decide) _ H).trans (p5 true trivial H)
 have q6:∀H,Z02 Y00 O H 32 [.agg [.int .i64 1,.rs 4 6 CL],.int .i64 3]=some (.rs 0 1 [],H):=λH=>(kq _ (by decide) _ H).trans (p5 false trivial H)
 have q7:∀H args,Z0T (frz H 30) args=some [.rs 2 1 [.int .i64 2,.int .i64 3],.rs 2 1 [.int .i64 2,.int .i64 3]]->Z02 Y00 O H 23 args=some (.bool true,H):=λH args h=>pl [2,3] (by decide) H args h
 have q8:∀H args,Z0T (frz H 30) args=some [.rs 1 1 [.int .i64 0],.rs 1 1 [.int .i64 0]]->Z02 Y00 O H 23 args=some (.bool true,H):=λH args h=>pl [0] (by decide) H args h
 clear p1 p2 p3 p4 p5 pl kq hO1 b1 b2 b3 b4 b5 b6
 refine Z05 follows Z07 hO Tryz.func28 rfl ?_
 repeat' ((conv=>whnf);first|with_reducible refine exI (q1 _) ?_|with_reducible refine exI (q2 _) ?_|with_reducible refine exI (q3 _) ?_|with_reducible refine exI (q4 _) ?_|with_reducible refine exI (q5 _) ?_|with_reducible refine exI (q6 _) ?_|(with_reducible refine exN ?_ ?_;(focus (first|exact q7 _ _ rfl|exact q8 _ _ rfl)))|refine stp ?_|with_reducible apply Z01<;>intro h)
 all_goals rfl
end Go.Proofs.YthbimonbnaodkaaGreatDoor.lex
end

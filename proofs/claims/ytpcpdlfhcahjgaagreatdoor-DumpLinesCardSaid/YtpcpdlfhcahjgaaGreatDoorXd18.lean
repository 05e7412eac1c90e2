/-
  Texts of this proof, one behind the other (part 18).
-/
import Derived.Test.YtpcpdlfhcahjgaaGreatDoorXd14
import Derived.Test.YtpcpdlfhcahjgaaGreatDoorXd15
set_option linter.unusedVariables false
set_option linter.unusedSimpArgs false
set_option maxRecDepth 100000
set_option maxHeartbeats 4000000
open Go.Proofs.Tryz renaming prog → Y00
open List renaming append_inj' → Y01,cons_append → Y02,append_eq_append_iff → Y03,append_nil → Y04,length_take → Y05
namespace Go.Proofs.YtpcpdlfhcahjgaaGreatDoor.lex
open Go.Abs Go.RowKit
section
def ZaF(s:List UInt8):Prop:=∃p,s=p++[100,10]
theorem ZaE{a c:List UInt8}{u v:UInt8}(h:ZaF (a++(c++[u,v]))):ZaF (c++[u,v]):=by
 obtain⟨p,e⟩:=h
 rw[<- List.append_assoc]at e
 have:=(Y01 e rfl).2
 rw[this]
 exact⟨c,rfl⟩
theorem Z99{s:List UInt8}(h:ZaF s):(10:UInt8)∈s:=by
 obtain⟨p,rfl⟩:=h;simp
theorem Zcy:∀(c:List UInt8),2<=c.length->∃q u v,c=q++[u,v]:=λc h=>by
 rcases List.eq_nil_or_concat c with rfl|⟨a,v,rfl⟩
 ·simp at h
 · rcases List.eq_nil_or_concat a with rfl|⟨q,u,rfl⟩
   ·simp at h
   ·exact⟨q,u,v,by simp⟩
theorem noE:∀(L:List (List UInt8)),(∀x∈L,LnW x)->∀s r,s++r=lns L->¬ZaF s
 |[],_,s,r,h,he=>by
  have:s=[]:=(List.append_eq_nil_iff.1 h).1
  subst this
  have:=Z99 he
  simp at this
 |x::L,hL,s,r,h,he=>by
  have hx:=hL x (by simp)
  simp only[lns]at h
  rcases Y03.1 h with ⟨a,e1,e2⟩|⟨c,e1,e2⟩
  ·exact hx.l (by rw[e1];simp[Z99 he])
  · cases c with
    |nil =>
     rw[Y04]at e1
     exact hx.l (by rw[<- e1];exact Z99 he)
    |cons b c =>
     simp only[Y02,List.cons.injEq]at e2
     obtain⟨rfl,e2⟩:=e2
     by_cases h2:2<=c.length
     · obtain⟨q,u,v,rfl⟩:=Zcy c h2
       rw[e1,show x++10::(q++[u,v])=(x++[10])++(q++[u,v]) by simp]at he
       exact noE L (λy hy=>hL y (by simp[hy])) _ r e2.symm (ZaE he)
     · obtain⟨p,e⟩:=he
       rw[e1]at e
       match c,h2 with
       |[],_ =>
        rw[show p++[100,10]=(p++[100])++[10] by simp]at e
        have:=(Y01 e rfl).1
        exact hx.d (by rw[this];simp)
       |[b],_ =>
        rw[show x++[10,b]=(x++[10])++[b] by simp,show p++[100,10]=(p++[100])++[10] by simp]at e
        have e3:=(Y01 e rfl).1
        have e4:=(Y01 e3 rfl).2
        simp at e4
       |b::b'::c,h=>exact absurd (by simp) h
theorem Zi3{g:DGr}(h:Rt g){s r:List UInt8}(hr:r≠[])(e:s++r=Z0y g):¬ZaF s:=by
 obtain⟨A,e1,L,rfl,hL⟩:=ZbI h
 rw[e1]at e
 intro he
 rcases Y03.1 e with ⟨a,e2,e3⟩|⟨c,e2,e3⟩
 ·exact noE L hL s a e2.symm he
 · cases c with
   |nil =>
    rw[Y04]at e2
    exact noE L hL s [] (by rw[e2];simp) he
   |cons b c =>
    have e4:[101,110,100,10]=b::(c++r):=e3
    simp only[List.cons.injEq]at e4
    obtain⟨rfl,e4⟩:=e4
    obtain⟨p,he⟩:=he
    match c,e4 with
    |[],_ =>
     rw[e2,show p++[100,10]=(p++[100])++[10] by simp]at he
     have:=(Y01 he rfl).2
     simp at this
    |[b],e4 =>
     simp only[Y02,List.nil_append,List.cons.injEq]at e4
     obtain⟨rfl,_⟩:=e4
     rw[e2,show lns L++[101,110]=(lns L++[101])++[110] by simp,show p++[100,10]=(p++[100])++[10] by simp]at he
     have:=(Y01 he rfl).2
     simp at this
    |[b,b'],e4 =>
     simp only[Y02,List.nil_append,List.cons.injEq]at e4
     obtain⟨rfl,rfl,_⟩:=e4
     rw[e2,show lns L++[101,110,100]=(lns L++[101,110])++[100] by simp,show p++[100,10]=(p++[100])++[10] by simp]at he
     have:=(Y01 he rfl).2
     simp at this
    |b::b'::b''::c,e4 =>
     simp only[Y02,List.cons.injEq]at e4
     obtain⟨_,_,_,e4⟩:=e4
     have:=congrArg List.length e4
     simp only[List.length_nil,List.length_append]at this
     have hr':=List.length_pos_iff.2 hr
     omega
theorem Ze1(g:DGr):∃t,Z0y g=103::t:=by
 unfold Z0y Z0s
 rw[Z12 (λw hw=>(Zcv _ w hw).ne),Z0M]
 exact⟨_,rfl⟩
theorem ZdB:∀(l:List DGr)(s r:List UInt8),(∀g∈l,okG g/\Z0e g=0)->s++r=Z0b l->(s=[]\/ZaF s)->∃l1,s=Z0b l1/\∀g∈l1,g∈l
 |[],s,r,_,h,_=>by
  have:s=[]:=(List.append_eq_nil_iff.1 h).1
  exact⟨[],this,by simp⟩
 |g::l,s,r,hl,h,he=>by
  rcases he with rfl|he
  ·exact⟨[],rfl,by simp⟩
  have e0:Z0b (g::l)=Z0y g++Z0b l:=rfl
  rw[e0]at h
  have hg:=Z9P (hl g (by simp)).1 (hl g (by simp)).2
  rcases Y03.1 h with ⟨a,e1,e2⟩|⟨c,e1,e2⟩
  · by_cases ha:a=[]
    · subst ha
      rw[Y04]at e1
      refine⟨[g],by rw[<- e1];simp[Z0b],by simp⟩
    ·exact absurd he (Zi3 hg ha e1.symm)
  · have hc : c = [] \/ ZaF c := by
     by_cases h2:2<=c.length
     · obtain⟨q,u,v,rfl⟩:=Zcy c h2
       rw[e1]at he
       exact .inr (ZaE he)
     · match c,h2 with
       |[],_=>exact .inl rfl
       |[b],_ =>
        exfalso
        obtain⟨p,he⟩:=he
        rw[e1,show p++[100,10]=(p++[100])++[10] by simp]at he
        have hb:=(Y01 he rfl).2
        simp only[List.cons.injEq,and_true]at hb
        subst hb
        cases l with
        |nil=>cases e2
        |cons g2 l =>
         obtain⟨t,ht⟩:=Ze1 g2
         have e3:Z0b (g2::l)=Z0y g2++Z0b l:=rfl
         rw[e3,ht]at e2
         simp at e2
       |b::b'::c,h=>exact absurd (by simp) h
    obtain⟨l1,f1,f2⟩:=ZdB l c r (λx hx=>hl x (by simp[hx])) e2.symm hc
    refine⟨g::l1,by rw[e1,f1];rfl,λx hx=>?_⟩
    rcases List.mem_cons.1 hx with rfl|hx
    ·simp
    ·simp[f2 x hx]
theorem Zaa:∀l:List DGr,l≠[]->(∀g∈l,okG g/\Z0e g=0)->∃p,Z0b l=p++[101,110,100,10]
 |[],h,_=>absurd rfl h
 |[g],_,h=>by
  obtain⟨A,e,_⟩:=ZbI (Z9P (h g (by simp)).1 (h g (by simp)).2)
  exact⟨A,by show Z0y g++Z0b []=_;rw[e];simp[Z0b];rfl⟩
 |g::g2::l,_,h=>by
  obtain⟨p,e⟩:=Zaa (g2::l) (by simp) λx hx=>h x (by simp[hx])
  refine⟨Z0y g++p,?_⟩
  show Z0y g++Z0b (g2::l)=_
  rw[e,List.append_assoc]
theorem ZgM {l : List DGr} (h : ∀ g ∈ l, okG g /\ Z0e g = 0) (hT : (Z0b l).length <= 1048576) (k n : Nat) (hk : k <= (Z0b l).length) (hn : k < n) :
  (Z9i n ((Z0b l).take k) []).isSome=true ↔ (k=0\/(4<=k/\((Z0b l).take k).drop (k-4)=[101,110,100,10])):=by
 have hlen:((Z0b l).take k).length=k:=by rw[Y05];omega
 constructor
 · intro hs
   obtain⟨m,hm⟩:=Option.isSome_iff_exists.1 hs
   obtain⟨l1,e1,e2,e3,_⟩:=Z9h _ _ _ _ (by omega) hm
   by_cases hl1:l1=[]
   · left
     subst hl1
     have:((Z0b l).take k).length=0:=by rw[<- e2];rfl
     omega
   · right
     obtain⟨p,ep⟩:=Zaa l1 hl1 e3
     rw[<- e2]at hlen⊢
     rw[ep]at hlen⊢
     simp only[List.length_append,List.length_cons,List.length_nil]at hlen
     refine⟨by omega,?_⟩
     rw[show k-4=p.length by omega]
     simp
 · intro hw
   have he:(Z0b l).take k=[]\/ZaF ((Z0b l).take k):=by
    rcases hw with rfl|⟨h4,hd⟩
    ·left;simp
    · right
      refine⟨((Z0b l).take k).take (k-4)++[101,110],?_⟩
      conv=>lhs;rw[<- List.take_append_drop (k-4) ((Z0b l).take k),hd]
      simp
   obtain⟨l1,f1,f2⟩:=ZdB l _ ((Z0b l).drop k) h (List.take_append_drop k _) he
   have hg1:∀g∈l1,okG g/\Z0e g=0:=λg hg=>h g (f2 g hg)
   rw[f1]at hlen⊢
   rw[Z9g l1 [] n hg1 (by omega)]
   rfl
end
end Go.Proofs.YtpcpdlfhcahjgaaGreatDoor.lex
section
namespace Go.Proofs.YtpcpdlfhcahjgaaGreatDoor.lex
open Go.Abs Go.RowKit
theorem Zmo(l:List DGr)(x:Int)(hl:okGs l)(hf:Zav l=false):ValOK Y00 runLives.gl 4 [rsG l,.int .i64 x] (.bool true):=by
 obtain⟨O,hO,p1,p2,-⟩:=fams (P:=Y00) (gl:=runLives.gl) [fmL,fmF] rfl
 have q1:∀H,Z02 Y00 O H 6 []=some (.bool true,H):=p1 () trivial
 have q2:∀H,Z02 Y00 O H 7 [.rs l.length 4 (Z07 grC l),.int .i64 8,.int .i64 60]=some (.bool false,H):=by rw[<- hf];exact p2 l hl
 clear p1 p2
 refine Z09 follows Z0a hO Tryz.func4 rfl ?_
 repeat' ((conv=>whnf);first|with_reducible refine exI (q1 _) ?_|with_reducible refine exI (q2 _) ?_|refine stp ?_|with_reducible apply Z01<;>intro h)
 all_goals rfl
theorem Znl(l:List DGr)(x:Int)(hl:okGs l)(hf:Zav l=true)(ha:Z28 l=false):ValOK Y00 runLives.gl 4 [rsG l,.int .i64 x] (.bool true):=by
 obtain⟨O,hO,p1,p2,p3,-⟩:=fams (P:=Y00) (gl:=runLives.gl) [fmL,fmF,fmT] rfl
 have q1:∀H,Z02 Y00 O H 6 []=some (.bool true,H):=p1 () trivial
 have q2:∀H,Z02 Y00 O H 7 [.rs l.length 4 (Z07 grC l),.int .i64 8,.int .i64 60]=some (.bool true,H):=by rw[<- hf];exact p2 l hl
 have q3:∀H,Z02 Y00 O H 8 [.rs l.length 4 (Z07 grC l)]=some (.tuple [.str [],.int .i64 2],H):=by rw[<- Z0H ha];exact p3 l ⟨hl.2,by have:=Z4i hf;omega⟩
 clear p1 p2 p3
 show ValOK _ _ _ [.rs l.length 4 (Z07 grC l),.int .i64 x] _
 generalize hY:Z07 grC l=Y at *
 refine Z09 follows Z0a hO Tryz.func4 rfl ?_
 repeat' ((conv=>whnf);first|with_reducible refine exI (q1 _) ?_|with_reducible refine exI (q2 _) ?_|with_reducible refine exI (q3 _) ?_|refine stp ?_|with_reducible apply Z01<;>intro h)
 all_goals rfl
theorem ZeD(T:List UInt8)(i:Nat)(h:i<T.length):(T.take (i+1)).count 10=(T.take i).count 10+if T[i]=10 then 1 else 0:=by
 rw[List.take_succ_eq_append_getElem h,List.count_append,List.count_cons,List.count_nil]
 simp
theorem ZkN(l:List DGr)(x:Int)(k:Nat)(T:List UInt8)(hl:okGs l)(hf:Zav l=true)(ha:Z28 l=true)(hT:Z0b l=T)(hk:k<=T.length)(hx:Z4D x (T.length+1)=k):ValOK Y00 runLives.gl 4 [rsG l,.int .i64 x] (.bool true):=by
 have hg:∀g∈l,okG g/\Z0e g=0:=λg h=>⟨hl.2 g h,(Z2j l).1 ha g h⟩
 have hln:l.length<=8:=Z4i hf
 have hTl:T.length<=160000:=by rw[<- hT];have:=Z2p l hg;omega
 have htk:(T.take k).length=k:=by rw[Y05];omega
 obtain⟨O,hO,p1,p2,p3,p4,p5,p6,-⟩:=fams (P:=Y00) (gl:=runLives.gl) [fmL,fmF,fmT,fmA,fmN,fmP] rfl
 have q1:∀H,Z02 Y00 O H 6 []=some (.bool true,H):=p1 () trivial
 have q2:∀H,Z02 Y00 O H 7 [.rs l.length 4 (Z07 grC l),.int .i64 8,.int .i64 60]=some (.bool true,H):=by rw[<- hf];exact p2 l hl
 have q3:∀H,Z02 Y00 O H 8 [.rs l.length 4 (Z07 grC l)]=some (.tuple [.str T,.int .i64 0],H):=by rw[<- hT,<- Z0G ha];exact p3 l ⟨hl.2,by omega⟩
 have q4:∀H,Z02 Y00 O H 10 [.str (T.take k)]=some (Zbk (T.take k),H):=p4 (T.take k) (by show (T.take k).length<=_;omega)
 have q5:∀H,Z02 Y00 O H 13 [.str (T.take k)]=some (.int .i64 ((T.take k).count 10:Nat),H):=by
  have:=p5 (T.take k) (by show (T.take k).length<=_;omega)
  unfold Z17 at this
  rw[<- hT]at this⊢
  rw[<- Z2l hg k (((Z0b l).take k).length+1) (by omega)]
  exact this
 have q6:∀H,Z02 Y00 O H 12 [.int .i64 x,.int .i64 ((T.length+1:Nat):Int)]=some (.int .i64 k,H):=by rw[<- hx];exact p6 (x,T.length+1) ⟨by show 0<T.length+1;omega,by show T.length+1<=_;omega⟩
 have hw:=ZgM hg (by rw[hT];omega) k (((T.take k).length)+1) (by rw[hT];omega) (by omega)
 rw[hT]at hw
 have hcs:=Z8t (T.take k) (by omega)
 clear p1 p2 p3 p4 p5 p6
 have w1:IntKind.i64.wrap ((T.length:Int)+1)=((T.length+1:Nat):Int):=by rw[Z1i (by omega) (by omega)];omega
 show ValOK _ _ _ [.rs l.length 4 (Z07 grC l),.int .i64 x] _
 generalize Z07 grC l=Y at *
 refine Z09 follows Z0a hO Tryz.func4 rfl ?_
 repeat' ((conv=>whnf);first|with_reducible refine exI (q1 _) ?_|with_reducible refine exI (q2 _) ?_|with_reducible refine exI (q3 _) ?_|(with_reducible refine exW w1 ?_)|with_reducible refine exI (q6 _) ?_|refine stp ?_|with_reducible apply Z01<;>intro h)
 conv=>whnf
 refine⟨Nat,(λi=>i<=k),(λi=>[(5,.str T),(7,.int .i64 k),(8,.int .i64 ((T.take i).count 10:Nat)),(9,.int .i64 i)]),(λi=>[]),(λi=>k-i),⟨0,Nat.zero_le _,FgL.mk0 rfl ?_⟩,?_⟩
 ·exact wks
 intro i hi
 dsimp only
 have hcl:(T.take i).count 10<=i:=by
  have h1:=List.count_le_length (a:=(10:UInt8)) (l:=T.take i)
  rw[Y05]at h1;omega
 by_cases hlt:i<k
 · have e1:decide ((i:Int)<(k:Int))=true:=decide_eq_true (by omega)
   have hiT:i<T.length:=by omega
   have hs:T[i]? = some T[i]:=List.getElem?_eq_getElem hiT
   have hcn:=ZeD T i hiT
   have w2:IntKind.i64.wrap (((T.take i).count 10:Nat)+1:Int)=(((T.take i).count 10+1:Nat):Int):=by rw[Z1i (by omega) (by omega)];omega
   by_cases h10:T[i]=10
   · rw[if_pos h10]at hcn
     rw[h10]at hs
     repeat' ((conv=>whnf);first|(with_reducible refine ixS i hs ?_ ?_;focus omega)|(with_reducible refine exW w2 ?_)|refine stp ?_|with_reducible apply Z01<;>intro h)
     conv=>whnf
     refine⟨i+1,hlt,by show k-(i+1)<k-i;omega,?_⟩
     (try dsimp only)
     rw[hcn]
     refine FgL.mk0 rfl ?_
     exact wks
   · rw[if_neg h10,Nat.add_zero]at hcn
     obtain⟨c,hc⟩:∃c,T[i]=c:=⟨_,rfl⟩
     rw[hc]at hs h10
     have hne:((c.toNat:Int)==10)=false:=by
      have:c.toNat≠10:=λe=>h10 (UInt8.toNat_inj.1 e)
      simp;omega
     repeat' ((conv=>whnf);first|(with_reducible refine ixS i hs ?_ ?_;focus omega)|(with_reducible refine exW w2 ?_)|refine stp ?_|with_reducible apply Z01<;>intro h)
     conv=>whnf
     refine⟨i+1,hlt,by show k-(i+1)<k-i;omega,?_⟩
     (try dsimp only)
     rw[hcn]
     refine FgL.mk0 rfl ?_
     exact wks
 · have ei:i=k:=by omega
   subst ei
   have e1:decide ((i:Int)<(i:Int))=false:=decide_eq_false (by omega)
   have e9:((((T.take i).count 10:Nat):Int)==(((T.take i).count 10:Nat):Int))=true:=by simp
   have w4:4<=i->IntKind.i64.wrap ((i:Int)-4)=((i-4:Nat):Int):=λh=>by rw[Z1i (by omega) (by omega)];omega
   generalize (T.take i).count 10=C at *
   cases hR:Z9i ((T.take i).length+1) (T.take i) [] with
   |none =>
    rw[hR]at hw
    have hn:¬(i=0\/(4<=i/\(T.take i).drop (i-4)=[101,110,100,10])):=λh=>by have:=hw.2 h;cases this
    have hv:Zbk (T.take i) = .tuple [.nslice,.int .i64 11]:=by unfold Zbk;rw[hR]
    rw[hv]at q4
    have e2:((i:Int)==0)=false:=by have:i≠0:=λh=>hn (.inl h);simp;omega
    by_cases h4:4<=i
    · have w4':=w4 h4
      have e3:decide ((i:Int) >= 4)=true:=decide_eq_true (by omega)
      have e3':decide ((4:Int)<=(i:Int))=true:=decide_eq_true (by omega)
      have hne:(T.take i).drop (i-4)≠[101,110,100,10]:=λh=>hn (.inr ⟨h4,h⟩)
      have e5:(((T.take i).drop (i-4))==[101,110,100,10])=false:=by simpa using hne
      repeat' ((conv=>whnf);first|(with_reducible refine exW w4' ?_)|with_reducible refine exI (q4 _) ?_|with_reducible refine exI (q5 _) ?_|refine stp ?_|with_reducible apply Z01<;>intro h)
      all_goals
       show AV.bool ((_:Bool)==((T.drop (i-4)).take (i-(i-4))==[101,110,100,10]))=_
       rw[<- List.drop_take,e5]
       rfl
    · have e3:decide ((i:Int) >= 4)=false:=decide_eq_false (by omega)
      have e3':decide ((4:Int)<=(i:Int))=false:=decide_eq_false (by omega)
      repeat' ((conv=>whnf);first|with_reducible refine exI (q4 _) ?_|with_reducible refine exI (q5 _) ?_|refine stp ?_|with_reducible apply Z01<;>intro h)
      all_goals rfl
   |some m =>
    rw[hR]at hw
    have hy:=hw.1 rfl
    have hv:Zbk (T.take i) = .tuple [.rs m.length 4 (Z07 grC m),.int .i64 0]:=by unfold Zbk;rw[hR];rfl
    rw[hv]at q4
    by_cases h0:i=0
    · subst h0
      repeat' ((conv=>whnf);first|with_reducible refine exI (q4 _) ?_|with_reducible refine exI (q5 _) ?_|refine stp ?_|with_reducible apply Z01<;>intro h)
      all_goals rfl
    · have e2:((i:Int)==0)=false:=by simp;omega
      obtain⟨h4,hye⟩:4<=i/\(T.take i).drop (i-4)=[101,110,100,10]:=by
       rcases hy with h|h
       ·exact absurd h h0
       ·exact h
      have w4':=w4 h4
      have e3:decide ((i:Int) >= 4)=true:=decide_eq_true (by omega)
      have e3':decide ((4:Int)<=(i:Int))=true:=decide_eq_true (by omega)
      have e5:(((T.take i).drop (i-4))==[101,110,100,10])=true:=by rw[hye];rfl
      repeat' ((conv=>whnf);first|(with_reducible refine exW w4' ?_)|with_reducible refine exI (q4 _) ?_|with_reducible refine exI (q5 _) ?_|refine stp ?_|with_reducible apply Z01<;>intro h)
      all_goals
       show AV.bool ((_:Bool)==((T.drop (i-4)).take (i-(i-4))==[101,110,100,10]))=_
       rw[<- List.drop_take,e5]
       rfl
theorem dl_law(l:List DGr)(x:Int)(hl:okGs l):ValOK Y00 runLives.gl 4 [rsG l,.int .i64 x] (.bool true):=by
 cases hf:Zav l with
 |false=>exact Zmo l x hl hf
 |true =>
  cases ha:Z28 l with
  |false=>exact Znl l x hl hf ha
  |true =>
   obtain⟨k1,k2⟩:=Z6C x (m:=(Z0b l).length+1) (by omega)
   exact ZkN l x (Z4D x ((Z0b l).length+1:Nat)).toNat (Z0b l) hl hf ha rfl (by omega) (by omega)
end Go.Proofs.YtpcpdlfhcahjgaaGreatDoor.lex
namespace Go.Proofs.YtpcpdlfhcahjgaaGreatDoor.dlLaw
open Go.Abs Go.RowKit
def QG(u:AV):Prop:=∃l:List lex.DGr,u=lex.rsG l/\lex.okGs l
def QI(u:AV):Prop:=∃n,u = .int .i64 n/\(Lit.int .i64 n).wf=true
def Qs:List (AV->Prop):=[QG,QI]
theorem opens:Z4o Y00 Tryz.f4.params.toList Qs:=by
 rw[Tryz.params4]
 exact⟨lex.oc.opGs,Z4d Tryz.underlying3,trivial⟩
theorem law(us:List AV)(h:ZiL Qs us):ValOK Y00 runLives.gl 4 us (.bool true):=by
 obtain⟨_,_,rfl,⟨l,rfl,hl⟩,h1⟩:=Z22 h
 obtain⟨_,_,rfl,⟨x,rfl,_⟩,h2⟩:=Z22 h1
 cases Z9j h2
 exact lex.dl_law l x hl
theorem solid:Solid Y00:=by unfold Solid;kernel_rfl
end Go.Proofs.YtpcpdlfhcahjgaaGreatDoor.dlLaw
end

/-
  Texts of this proof, one behind the other (part 5).
-/
import Derived.Test.YthbimonbnaodkaaGreatDoorXj4
import Derived.Shelf.Strconv.Itoa2
import Derived.Ground.NamesProg
import Derived.Test.YthbimonbnaodkaaGreatDoorProg
import Derived.Lib.ItoaMem
import Derived.Shelf.Strconv.Itoa1
import Derived.Shelf.Strconv.Itoa0
import Derived.Sort.Grow
import Derived.Sort.Row
import Derived.Lib.SlicesCompact
set_option linter.unusedVariables false
set_option linter.unusedSimpArgs false
set_option maxRecDepth 100000
set_option maxHeartbeats 4000000
open Go.Proofs.Tryz renaming prog → Y00,func141 → Y0r,func136 → Y0u,underlying3 → Y0x,isAgg3 → Y0y,sizeOf3 → Y0z,zeroValue3 → Y0A,underlying4 → Y0J,zeroValue4 → Y0K
open And renaming intro → Y01
open List renaming length_append → Y02,getElem?_eq_getElem → Y05,append_nil → Y07,length_cons → Y0b,take_length → Y0c,getElem?_eq_some_iff → Y0f,getElem?_append_left → Y0h,length_drop → Y0i,getD_eq_getElem?_getD → Y0l,cons_ne_nil → Y0o,getElem?_append_right → Y0q,eq_nil_of_length_eq_zero → Y0s,length_take → Y0t,mem_cons → Y0v,not_mem_nil → Y0w,getElem?_cons_succ → Y0C,take_succ_eq_append_getElem → Y0E,length_nil → Y0G,flatten_append → Y0H,append_assoc → Y0I,getElem?_drop → Y0L,getElem?_cons_zero → Y0O,mem_of_getElem? → Y0P
open Go.Abs.Wk renaming int → Y03,ptr → Y04,noref → Y08
open Nat renaming le_refl → Y06,zero_le → Y09,zero_add → Y0p,lt_of_lt_of_le → Y0N
open Go.Abs.FgL renaming mk → Y0a,mk0 → Y0j
open Bool renaming and_eq_true → Y0d,true_and → Y0e,and_assoc → Y0n,eq_iff_iff → Y0D,or_eq_true → Y0F
open Option renaming map_some → Y0g
open Go.Abs.BodyGe renaming cellsL → Y0k,pre → Y0m
open Array renaming getElem?_modify → Y0B
open Int renaming toNat_natCast → Y0M
namespace Go.Proofs.YthbimonbnaodkaaGreatDoor.lex
open Go.Abs Go.RowKit
section
variable {gl:Z0o}
def szH(s:Nat):Z00:=[⟨true,0,0,.cells [.int .i64 s] 3⟩]
theorem ZlN{a b:Nat}(h:szH a=szH b):a=b:=by
 simp only[szH,List.cons.injEq,AObj.mk.injEq,ABody.cells.injEq,AV.int.injEq,and_true,true_and]at h
 omega
theorem Zh0{kids:List Ex}{i j:Nat}(hi:i<kids.length)(hj:j<kids.length)(h:(exC kids).drop (i*4)=(exC kids).drop (j*4)):i=j:=by
 have:=congrArg List.length h
 simp only[Y0i,Z6b]at this
 omega
theorem Ze4 : ∀ (n : Nat) (e : Ex) (rest : List AV) (d : Int) (s : Nat), Z0a e <= n -> okE e -> s <= 2000 -> 0 <= d -> d <= 33 ->
  Z10 Y00 gl 92 [.rp (e.cells++rest),.int .i64 d,.ptr 0 0] (szH s) (.bool (smE e d s).1) (szH (smE e d s).2)
 |0,e,rest,d,s,h,_,_,_,_=>by have:=Z1r e;omega
 |n+1,.mk op num name kids,rest,d,s,h,hok,hs,h0,h1=>by
  simp only[Z0a]at h
  obtain⟨⟨hn1,hn2⟩,hok2⟩:=Z0S hok
  simp only[Ex.name,Ex.kids]at hn1 hn2 hok2
  have hinj : ∀ p q : Nat × Nat, (p.1 < kids.length /\ p.2 <= 2000 /\ d + 1 <= 33) -> (q.1 < kids.length /\ q.2 <= 2000 /\ d + 1 <= 33) -> [AV.rp ((exC kids).drop (p.1 * 4)), .int .i64 (d + 1), .ptr 0 0] = [AV.rp ((exC kids).drop (q.1 * 4)), .int .i64 (d + 1), .ptr 0 0] -> szH p.2 = szH q.2 ->
    AV.bool (smE (kids.getD p.1 default) (d+1) p.2).1 = .bool (smE (kids.getD q.1 default) (d+1) q.2).1/\szH (smE (kids.getD p.1 default) (d+1) p.2).2=szH (smE (kids.getD q.1 default) (d+1) q.2).2:=λp q hp hq ha hh=>by
   simp only[List.cons.injEq,AV.rp.injEq,and_true]at ha
   rw[Zh0 hp.1 hq.1 ha,ZlN hh];exact⟨rfl,rfl⟩
  have hall:∀p:Nat×Nat,(p.1<kids.length/\p.2<=2000/\d+1<=33)->Z10 Y00 gl 92 [.rp ((exC kids).drop (p.1*4)),.int .i64 (d+1),.ptr 0 0] (szH p.2) (.bool (smE (kids.getD p.1 default) (d+1) p.2).1) (szH (smE (kids.getD p.1 default) (d+1) p.2).2):=λp hp=>by
   have hg:kids.getD p.1 default=kids[p.1]'hp.1:=by simp[Y0l,hp.1]
   rw[hg,Z6D kids p.1 hp.1]
   exact Ze4 n _ _ (d+1) p.2 (by have:=Z0h _ _ (Z03 hp.1);omega) (Z0k hok2 _ (Z03 hp.1)) hp.2.1 (by omega) hp.2.2
  obtain⟨O,hO,⟨p1,-⟩,-⟩:=Z5E (P:=Y00) (gl:=gl) [{ I:=Nat×Nat,f:=92,G:=λp=>p.1<kids.length/\p.2<=2000/\d+1<=33,A:=λp=>[.rp ((exC kids).drop (p.1*4)),.int .i64 (d+1),.ptr 0 0],H:=λp=>szH p.2,R:=λp=>.bool (smE (kids.getD p.1 default) (d+1) p.2).1,O:=λp=>szH (smE (kids.getD p.1 default) (d+1) p.2).2,body:=(by kernel_rfl),inj:=hinj,ok:=hall }] [] rfl
  have q1:∀i (h:i<kids.length) t,t<=2000->d+1<=33->Z02 Y00 O (szH t) 92 [.rp ((exC kids).drop (i*4)),.int .i64 (d+1),.ptr 0 0]=some (.bool (smE kids[i] (d+1) t).1,szH (smE kids[i] (d+1) t).2):=λi h t h2 h3=>by
   have hg:kids.getD i default=kids[i]'h:=by simp[Y0l,h]
   have:=p1 (i,t) ⟨h,h2,h3⟩
   simpa only[hg]using this
  clear p1 hinj hall
  simp only[Ex.cells]
  have w1:IntKind.i64.wrap (d+1)=d+1:=Z2r (by omega) (by omega)
  have w2:IntKind.i64.wrap ((s:Int)+1)=((s+1:Nat):Int):=ZdH (by omega)
  simp only[smE]
  refine Zi8 (k:=1) follows Z07 hO rfl Tryz.func92 rfl (Z85 _ _) ?_
  by_cases hs1:s+1<=2000
  · have e1:decide (((s+1:Nat):Int)>2000)=false:=by simp;omega
    by_cases hd:d<=32
    · have e2:decide (d>32)=false:=by simp;omega
      rw[if_pos ⟨hs1,hd⟩]
      repeat' ((conv=>whnf);first|(with_reducible refine exW w2 ?_)|refine stp ?_|with_reducible apply Z01<;>intro h)
      conv=>whnf
      refine⟨Nat,(λi=>i<=kids.length/\(smL (kids.take i) (d+1) (s+1)).1=true),(λi=>[(0,.rp ([.int .i64 op,.int .i64 num,.str name,.rs kids.length 4 (exC kids)]++rest)),(1,.int .i64 d),(2,.ptr 0 0),(25,.int .i64 kids.length),(26,.int .i64 i)]),(λi=>szH (smL (kids.take i) (d+1) (s+1)).2),(λi=>kids.length-i),⟨0,⟨Y09 _,by simp only[List.take_zero,smL]⟩,?_⟩,?_⟩
      · simp only[List.take_zero,smL]
        refine FgLK.mk [0] rfl rfl ?_ ⟨hbp,trivial⟩ rfl
        exact wks
      rintro i ⟨hi,hall⟩
      dsimp only
      have ht:=(smL_law (kids.take i) (d+1) (s+1) hs1 (by omega)).2 hall
      have ht2:=((smL_law (kids.take i) (d+1) (s+1) hs1 (by omega)).1.1 hall).1
      by_cases hlt:i<kids.length
      · have e3:decide ((i:Int)<(kids.length:Int))=true:=by simpa using hlt
        have q2:=q1 i hlt (smL (kids.take i) (d+1) (s+1)).2 (by omega) (by omega)
        have hat:=Zl1 kids (d+1) (s+1) i hlt hall
        have hst:=Ze5 kids (d+1) (s+1) (i+1)
        clear q1 ht ht2
        generalize (smL (kids.take i) (d+1) (s+1)).2=t at *
        generalize smE kids[i] (d+1) t=r at *
        obtain⟨b,t2⟩:=r
        simp only[szH]at *
        cases b with
        |true =>
         simp only[if_true]at hat
         repeat' ((conv=>whnf);first|refine exI q2 ?_|(with_reducible refine exW w1 ?_)|(with_reducible refine ixJ i rfl ?_ ?_;focus omega)|refine stp ?_|with_reducible apply Z01<;>intro h)
         conv=>whnf
         refine⟨i+1,⟨hlt,by rw[hat]⟩,by show kids.length-(i+1)<kids.length-i;omega,?_⟩
         rw[hat]
         refine FgLK.mk [0] rfl rfl ?_ ⟨hbp,trivial⟩ rfl
         exact wks
        |false =>
         simp only[Bool.false_eq_true,if_false]at hat
         rw[hst (by rw[hat]),hat]
         repeat' ((conv=>whnf);first|refine exI q2 ?_|(with_reducible refine exW w1 ?_)|(with_reducible refine ixJ i rfl ?_ ?_;focus omega)|refine stp ?_|with_reducible apply Z01<;>intro h)
         all_goals (conv=>whnf)
         all_goals exact⟨rfl,rfl⟩
      · have e3:decide ((i:Int)<(kids.length:Int))=false:=by simpa using hlt
        have hi2:i=kids.length:=by omega
        subst hi2
        rw[Y0c]at hall⊢
        generalize smL kids (d+1) (s+1)=r at *
        obtain⟨b,t2⟩:=r
        simp only at hall
        subst hall
        repeat' ((conv=>whnf);first|refine stp ?_|with_reducible apply Z01<;>intro h)
        all_goals (conv=>whnf)
        all_goals exact⟨rfl,rfl⟩
    · have e2:decide (d>32)=true:=by simp;omega
      rw[if_neg (by omega)]
      repeat' ((conv=>whnf);first|(with_reducible refine exW w2 ?_)|refine stp ?_|with_reducible apply Z01<;>intro h)
      all_goals (conv=>whnf)
      all_goals exact⟨rfl,rfl⟩
  · have e1:decide (((s+1:Nat):Int)>2000)=true:=by simp;omega
    rw[if_neg (by omega)]
    repeat' ((conv=>whnf);first|(with_reducible refine exW w2 ?_)|refine stp ?_|with_reducible apply Z01<;>intro h)
    all_goals (conv=>whnf)
    all_goals exact⟨rfl,rfl⟩
theorem Zm2{regs num:Int}{name:List UInt8}{kids:List Ex}:Z0m regs (.mk 1 num name kids)=(decide (num >= 0)&&(name==[]&&((kids.length:Int)==0))):=by
 simp only[Z0m,ZjK,if_true]
 cases kids with
 |nil=>simp[rightPL]
 |cons k l=>simp;intros;omega
theorem ZcL{regs num:Int}{name:List UInt8}{kids:List Ex}:Z0m regs (.mk 2 num name kids)=(decide (0<=Z1c name)&&(decide (Z1c name<regs)&&(num==0&&((kids.length:Int)==0)))):=by
 simp only[Z0m,ZjK]
 rw[if_neg (by decide),if_pos trivial]
 cases kids with
 |nil=>simp[rightPL]
 |cons k l=>simp;intros;omega
theorem Zm1{regs op num:Int}{name:List UInt8}{kids:List Ex}(h:op=3\/op=4):Z0m regs (.mk op num name kids)=(num==0&&(name==[]&&(((kids.length:Int)==1)&&rightPL regs kids))):=by
 simp only[Z0m,ZjK]
 rw[if_neg (by omega),if_neg (by omega),if_pos h]
 rw[Y0D];simp only[Y0d,beq_iff_eq,decide_eq_true_eq]
 constructor
 ·rintro⟨⟨a,b,c⟩,d⟩;exact⟨a,b,by omega,d⟩
 ·rintro⟨a,b,c,d⟩;exact⟨⟨a,b,by omega⟩,d⟩
theorem Zm0{regs op num:Int}{name:List UInt8}{kids:List Ex}(h:5<=op/\op<=16):Z0m regs (.mk op num name kids)=(num==0&&(name==[]&&(((kids.length:Int)==2)&&rightPL regs kids))):=by
 simp only[Z0m,ZjK]
 rw[if_neg (by omega),if_neg (by omega),if_neg (by omega),if_pos h]
 rw[Y0D];simp only[Y0d,beq_iff_eq,decide_eq_true_eq]
 constructor
 ·rintro⟨⟨a,b,c⟩,d⟩;exact⟨a,b,by omega,d⟩
 ·rintro⟨a,b,c,d⟩;exact⟨⟨a,b,by omega⟩,d⟩
theorem Zb1:∀(n:Nat)(e:Ex)(rest:List AV)(regs:Int),Z0a e<=n->okE e->ValOK Y00 gl 141 [.rp (e.cells++rest),.int .i64 regs] (.bool (Z0m regs e))
 |0,e,rest,regs,h,_=>by have:=Z1r e;omega
 |n+1,.mk op num name kids,rest,regs,h,hok=>by
  simp only[Z0a]at h
  obtain⟨⟨hn1,hn2⟩,hok2⟩:=Z0S hok
  simp only[Ex.name,Ex.kids]at hn1 hn2 hok2
  have hinj:∀i j:Nat,i<kids.length->j<kids.length->[AV.rp ((exC kids).drop (i*4)),.int .i64 regs]=[AV.rp ((exC kids).drop (j*4)),.int .i64 regs]->AV.bool (Z0m regs (kids.getD i default)) = .bool (Z0m regs (kids.getD j default)):=λi j hi hj ha=>by
   simp only[List.cons.injEq,AV.rp.injEq,and_true]at ha
   rw[Zh0 hi hj ha]
  have hall:∀i:Nat,i<kids.length->refsL [AV.rp ((exC kids).drop (i*4)),.int .i64 regs] []=[]/\ValOK Y00 gl 141 [.rp ((exC kids).drop (i*4)),.int .i64 regs] (.bool (Z0m regs (kids.getD i default))):=λi hi=>by
   have hg:kids.getD i default=kids[i]'hi:=by simp[Y0l,hi]
   rw[hg,Z6D kids i hi]
   exact⟨rfl,Zb1 n _ _ regs (by have:=Z0h _ _ (Z03 hi);omega) (Z0k hok2 _ (Z03 hi))⟩
  obtain⟨O,hO,p1,p2,-⟩:=fams (P:=Y00) (gl:=gl) [{ I:=Unit,f:=96,G:=λ_=>True,A:=λ_=>[.str name],R:=λ_=>Zgd name,body:=(by kernel_rfl),inj:=λ_ _ _ _ _=>rfl,ok:=λ_ _=>⟨rfl,Z7w _ hn1⟩ },
   { I:=Nat,f:=141,G:=λi=>i<kids.length,A:=λi=>[.rp ((exC kids).drop (i*4)),.int .i64 regs],R:=λi=>.bool (Z0m regs (kids.getD i default)),body:=(by kernel_rfl),inj:=hinj,ok:=hall }] rfl
  have q1:∀H,Z02 Y00 O H 96 [.str name]=some (Zgd name,H):=p1 () trivial
  have q2:∀i (h:i<kids.length) H,Z02 Y00 O H 141 [.rp ((exC kids).drop (i*4)),.int .i64 regs]=some (.bool (Z0m regs kids[i]),H):=λi h H=>by
   have hg:kids.getD i default=kids[i]'h:=by simp[Y0l,h]
   have:=p2 i h H
   simpa only[hg]using this
  clear p1 p2 hinj hall
  simp only[Ex.cells]
  by_cases c1:op=1
  · subst c1
    rw[Zm2]
    refine Z05 follows Z07 hO Y0r rfl ?_
    repeat' ((conv=>whnf);first|refine stp ?_|with_reducible apply Z01<;>intro h)
    all_goals (clear q1 q2 hO;show AV.bool _=AV.bool _;congr 1;(first|(simp_all;done)|(simp_all;omega)|(simp_all;intros;omega)))
  by_cases c2:op=2
  · subst c2
    rw[ZcL]
    unfold Zgd at q1
    by_cases hr:Z1c name<0
    · rw[if_pos hr]at q1
      have hr2:decide (0<=Z1c name)=false:=by simpa using hr
      rw[hr2]
      refine Z05 follows Z07 hO Y0r rfl ?_
      repeat' ((conv=>whnf);first|refine exI (q1 _) ?_|refine stp ?_|with_reducible apply Z01<;>intro h)
      all_goals rfl
    · rw[if_neg hr]at q1
      have hr2:decide (0<=Z1c name)=true:=by simpa using hr
      rw[hr2]
      clear hr hr2
      generalize Z1c name=nn at *
      refine Z05 follows Z07 hO Y0r rfl ?_
      repeat' ((conv=>whnf);first|refine exI (q1 _) ?_|refine stp ?_|with_reducible apply Z01<;>intro h)
      all_goals (clear q1 q2 hO;show AV.bool _=AV.bool _;congr 1;(first|(simp_all;done)|(simp_all;omega)|(simp_all;intros;omega)))
  have f1:(op==1)=false:=by simpa using c1
  have f2:(op==2)=false:=by simpa using c2
  by_cases cr:3<=op/\op<=16
  · have main : ∃ a : Int, Z0m regs (.mk op num name kids) = (num == 0 && (name == [] && (((kids.length : Int) == a) && rightPL regs kids))) /\ ((op = 3 /\ a = 1) \/ (op = 4 /\ a = 1) \/ (5 <= op /\ a = 2)) := by
     rcases (show (op=3\/op=4)\/5<=op by omega)with c3|c5
     ·exact⟨1,Zm1 c3,by omega⟩
     ·exact⟨2,Zm0 ⟨c5,cr.2⟩,by omega⟩
    obtain⟨a,hr,hc⟩:=main
    rw[hr]
    clear hr
    refine Z05 follows Z07 hO Y0r rfl ?_
    rcases hc with ⟨rfl,rfl⟩|⟨rfl,rfl⟩|⟨c5,rfl⟩
    case inr.inr =>
     have f3:(op==3)=false:=by simp;omega
     have f4:(op==4)=false:=by simp;omega
     have f5:decide (op<5)=false:=by simp;omega
     have f6:decide (op>16)=false:=by simp;omega
     clear c5 cr
     repeat' ((conv=>whnf);first|refine stp ?_|with_reducible apply Z01<;>intro h)
     all_goals (first|(clear q1 q2 hO;show AV.bool _=AV.bool _;congr 1;(first|(simp_all;done)|(simp_all;omega)|(simp_all;intros;omega)))|(
      have hz:(((num==0)&&(name==[]))&&((kids.length:Int)==2))=true:=by clear q1 q2 hO;simp_all
      have hr3:(num==0&&(name==[]&&(((kids.length:Int)==2)&&rightPL regs kids)))=rightPL regs kids:=by
       rw[<- Y0n,<- Y0n,hz,Y0e]
      rw[hr3]
      clear hz hr3
      conv=>whnf
      refine⟨Nat,(λi=>i<=kids.length/\rightPL regs (kids.take i)=true),(λi=>[(0,.rp ([.int .i64 op,.int .i64 num,.str name,.rs kids.length 4 (exC kids)]++rest)),(1,.int .i64 regs),(121,.int .i64 kids.length),(122,.int .i64 i)]),(λi=>[]),(λi=>kids.length-i),⟨0,⟨Y09 _,rfl⟩,Y0j rfl ?_⟩,?_⟩
      ·exact wks
      rintro i ⟨hi,hall⟩
      dsimp only
      by_cases hlt:i<kids.length
      · have e3:decide ((i:Int)<(kids.length:Int))=true:=by simpa using hlt
        have q2':=q2 i hlt
        have hat:=Z25 regs kids i hlt
        rw[hall,Y0e]at hat
        have hst:=Z2u (regs:=regs) hlt
        generalize Z0m regs kids[i]=r at *
        cases r with
        |true =>
         repeat' ((conv=>whnf);first|refine exI (q2' _) ?_|(with_reducible refine ixJ i rfl ?_ ?_;focus omega)|refine stp ?_|with_reducible apply Z01<;>intro h)
         conv=>whnf
         refine⟨i+1,⟨hlt,hat⟩,by show kids.length-(i+1)<kids.length-i;omega,Y0j rfl ?_⟩
         exact wks
        |false =>
         rw[hst rfl]
         repeat' ((conv=>whnf);first|refine exI (q2' _) ?_|(with_reducible refine ixJ i rfl ?_ ?_;focus omega)|refine stp ?_|with_reducible apply Z01<;>intro h)
         all_goals rfl
      · have e3:decide ((i:Int)<(kids.length:Int))=false:=by simpa using hlt
        have hi2:i=kids.length:=by omega
        subst hi2
        rw[Y0c]at hall
        rw[hall]
        repeat' ((conv=>whnf);first|refine stp ?_|with_reducible apply Z01<;>intro h)
        all_goals rfl))
    case inl =>
     repeat' ((conv=>whnf);first|refine stp ?_|with_reducible apply Z01<;>intro h)
     all_goals (first|(clear q1 q2 hO;show AV.bool _=AV.bool _;congr 1;(first|(simp_all;done)|(simp_all;omega)|(simp_all;intros;omega)))|(
      have hz:(((num==0)&&(name==[]))&&((kids.length:Int)==1))=true:=by clear q1 q2 hO;simp_all
      have hr3:(num==0&&(name==[]&&(((kids.length:Int)==1)&&rightPL regs kids)))=rightPL regs kids:=by
       rw[<- Y0n,<- Y0n,hz,Y0e]
      rw[hr3]
      clear hz hr3
      conv=>whnf
      refine⟨Nat,(λi=>i<=kids.length/\rightPL regs (kids.take i)=true),(λi=>[(0,.rp ([.int .i64 3,.int .i64 num,.str name,.rs kids.length 4 (exC kids)]++rest)),(1,.int .i64 regs),(121,.int .i64 kids.length),(122,.int .i64 i)]),(λi=>[]),(λi=>kids.length-i),⟨0,⟨Y09 _,rfl⟩,Y0j rfl ?_⟩,?_⟩
      ·exact wks
      rintro i ⟨hi,hall⟩
      dsimp only
      by_cases hlt:i<kids.length
      · have e3:decide ((i:Int)<(kids.length:Int))=true:=by simpa using hlt
        have q2':=q2 i hlt
        have hat:=Z25 regs kids i hlt
        rw[hall,Y0e]at hat
        have hst:=Z2u (regs:=regs) hlt
        generalize Z0m regs kids[i]=r at *
        cases r with
        |true =>
         repeat' ((conv=>whnf);first|refine exI (q2' _) ?_|(with_reducible refine ixJ i rfl ?_ ?_;focus omega)|refine stp ?_|with_reducible apply Z01<;>intro h)
         conv=>whnf
         refine⟨i+1,⟨hlt,hat⟩,by show kids.length-(i+1)<kids.length-i;omega,Y0j rfl ?_⟩
         exact wks
        |false =>
         rw[hst rfl]
         repeat' ((conv=>whnf);first|refine exI (q2' _) ?_|(with_reducible refine ixJ i rfl ?_ ?_;focus omega)|refine stp ?_|with_reducible apply Z01<;>intro h)
         all_goals rfl
      · have e3:decide ((i:Int)<(kids.length:Int))=false:=by simpa using hlt
        have hi2:i=kids.length:=by omega
        subst hi2
        rw[Y0c]at hall
        rw[hall]
        repeat' ((conv=>whnf);first|refine stp ?_|with_reducible apply Z01<;>intro h)
        all_goals rfl))
    case inr.inl =>
     repeat' ((conv=>whnf);first|refine stp ?_|with_reducible apply Z01<;>intro h)
     all_goals (first|(clear q1 q2 hO;show AV.bool _=AV.bool _;congr 1;(first|(simp_all;done)|(simp_all;omega)|(simp_all;intros;omega)))|(
      have hz:(((num==0)&&(name==[]))&&((kids.length:Int)==1))=true:=by clear q1 q2 hO;simp_all
      have hr3:(num==0&&(name==[]&&(((kids.length:Int)==1)&&rightPL regs kids)))=rightPL regs kids:=by
       rw[<- Y0n,<- Y0n,hz,Y0e]
      rw[hr3]
      clear hz hr3
      conv=>whnf
      refine⟨Nat,(λi=>i<=kids.length/\rightPL regs (kids.take i)=true),(λi=>[(0,.rp ([.int .i64 4,.int .i64 num,.str name,.rs kids.length 4 (exC kids)]++rest)),(1,.int .i64 regs),(121,.int .i64 kids.length),(122,.int .i64 i)]),(λi=>[]),(λi=>kids.length-i),⟨0,⟨Y09 _,rfl⟩,Y0j rfl ?_⟩,?_⟩
      ·exact wks
      rintro i ⟨hi,hall⟩
      dsimp only
      by_cases hlt:i<kids.length
      · have e3:decide ((i:Int)<(kids.length:Int))=true:=by simpa using hlt
        have q2':=q2 i hlt
        have hat:=Z25 regs kids i hlt
        rw[hall,Y0e]at hat
        have hst:=Z2u (regs:=regs) hlt
        generalize Z0m regs kids[i]=r at *
        cases r with
        |true =>
         repeat' ((conv=>whnf);first|refine exI (q2' _) ?_|(with_reducible refine ixJ i rfl ?_ ?_;focus omega)|refine stp ?_|with_reducible apply Z01<;>intro h)
         conv=>whnf
         refine⟨i+1,⟨hlt,hat⟩,by show kids.length-(i+1)<kids.length-i;omega,Y0j rfl ?_⟩
         exact wks
        |false =>
         rw[hst rfl]
         repeat' ((conv=>whnf);first|refine exI (q2' _) ?_|(with_reducible refine ixJ i rfl ?_ ?_;focus omega)|refine stp ?_|with_reducible apply Z01<;>intro h)
         all_goals rfl
      · have e3:decide ((i:Int)<(kids.length:Int))=false:=by simpa using hlt
        have hi2:i=kids.length:=by omega
        subst hi2
        rw[Y0c]at hall
        rw[hall]
        repeat' ((conv=>whnf);first|refine stp ?_|with_reducible apply Z01<;>intro h)
        all_goals rfl))
  · have hr : Z0m regs (.mk op num name kids) = false := by
     simp only[Z0m,ZjK]
     rw[if_neg c1,if_neg c2,if_neg (by omega),if_neg (by omega)];rfl
    rw[hr]
    have f3:(op==3)=false:=by simp;omega
    have f4:(op==4)=false:=by simp;omega
    refine Z05 follows Z07 hO Y0r rfl ?_
    by_cases c5:op<5
    · have f5:decide (op<5)=true:=by simpa using c5
      repeat' ((conv=>whnf);first|refine stp ?_|with_reducible apply Z01<;>intro h)
      all_goals rfl
    · have f5:decide (op<5)=false:=by simpa using c5
      have f6:decide (op>16)=true:=by simp;omega
      repeat' ((conv=>whnf);first|refine stp ?_|with_reducible apply Z01<;>intro h)
      all_goals rfl
end
end Go.Proofs.YthbimonbnaodkaaGreatDoor.lex
section
namespace Go.Proofs.YthbimonbnaodkaaGreatDoor.lex
open Go.Abs Go.RowKit Go.Flat
def Z0R(k:Int):Bool:=k==1 || (k==2 || (k==4 || (k==5 || k==6)))
def Z3o(k:Int):Bool:=decide (2<=k/\k<=6)
def Z5p(k:Int):Bool:=decide (2<=k/\k<=7)
def toB(k:Int):Bool:=k==10 || k==11
def ZiZ(k:Int):Int:=if k=4 then 2 else if k=1\/k=3\/k=5\/k=6\/k=8\/k=9\/k=11 then 1 else 0
def inW(n lo hi:Int)(must:Bool):Bool:=if must then decide (lo<=n)&&decide (n<hi) else n==0
def Z0y(regs n:Int)(i:Ins):Bool:=decide (1<=i.kind/\i.kind<=13)&&(inW i.reg 0 regs (Z0R i.kind)&&(inW i.loc 0 6 (Z3o i.kind)&&(inW i.order 1 7 (Z5p i.kind)&&(inW i.to 0 n (toB i.kind)&&(((i.ex.length:Int)==ZiZ i.kind)&&rightPL regs i.ex)))))
theorem Zgr{gl:Z0o}(n lo hi:Int)(m:Bool):ValOK Y00 gl 140 [.int .i64 n,.int .i64 lo,.int .i64 hi,.bool m] (.bool (inW n lo hi m)):=by
 refine Z05 follows Z07 Z06 Tryz.func140 rfl ?_
 repeat' ((conv=>whnf);first|refine stp ?_|with_reducible apply Z01<;>intro h)
 all_goals (show AV.bool _=AV.bool _;congr 1;unfold inW;(first|(simp_all;done)|(simp_all;omega)|(simp_all;intros;omega)))
def ZgN(k:Int):List AV:=[.bool (Z0R k),.bool (Z3o k),.bool (Z5p k),.bool (toB k),.int .i64 (ZiZ k)]
theorem Ze7(k:Nat)(h1:1<=k)(h2:k<=13):tk 5 (runLives.tbl4.drop (k*5))=some (ZgN k):=by
 have:k=1\/k=2\/k=3\/k=4\/k=5\/k=6\/k=7\/k=8\/k=9\/k=10\/k=11\/k=12\/k=13:=by omega
 rcases this with rfl|rfl|rfl|rfl|rfl|rfl|rfl|rfl|rfl|rfl|rfl|rfl|rfl<;>rfl
theorem Zh3(regs:Int)(n:Nat)(cs:List AV)(i:Ins)(rest:List AV)(hok:okL i.ex)(hl:i.ex.length<=9223372036854775807):ValOK Y00 runLives.gl 93 [.agg [.int .i64 regs,.rs n 6 cs],.rp (icells i++rest)] (.bool (Z0y regs n i)):=by
 obtain⟨kind,reg,loc,order,to,ex⟩:=i
 simp only at hok hl
 have hinj:∀i j:Nat,i<ex.length->j<ex.length->[AV.rp ((exC ex).drop (i*4)),.int .i64 regs]=[AV.rp ((exC ex).drop (j*4)),.int .i64 regs]->AV.bool (Z0m regs (ex.getD i default)) = .bool (Z0m regs (ex.getD j default)):=λi j hi hj ha=>by
  simp only[List.cons.injEq,AV.rp.injEq,and_true]at ha
  rw[Zh0 hi hj ha]
 have hall:∀i:Nat,i<ex.length->refsL [AV.rp ((exC ex).drop (i*4)),.int .i64 regs] []=[]/\ValOK Y00 runLives.gl 141 [.rp ((exC ex).drop (i*4)),.int .i64 regs] (.bool (Z0m regs (ex.getD i default))):=λi hi=>by
  have hg:ex.getD i default=ex[i]'hi:=by simp[Y0l,hi]
  rw[hg,Z6D ex i hi]
  exact⟨rfl,Zb1 _ _ _ regs (Y06 _) (Z0k hok _ (Z03 hi))⟩
 obtain⟨O,hO,p1,p2,-⟩:=fams (P:=Y00) (gl:=runLives.gl) [{ I:=Int×Int×Int×Bool,f:=140,G:=λ_=>True,A:=λp=>[.int .i64 p.1,.int .i64 p.2.1,.int .i64 p.2.2.1,.bool p.2.2.2],R:=λp=>.bool (inW p.1 p.2.1 p.2.2.1 p.2.2.2),body:=(by kernel_rfl),inj:=(λp q _ _ h=>by simp only[List.cons.injEq,AV.int.injEq,AV.bool.injEq,and_true,true_and]at h;rw[h.1,h.2.1,h.2.2.1,h.2.2.2]),ok:=λp _=>⟨rfl,Zgr _ _ _ _⟩ },
  { I:=Nat,f:=141,G:=λi=>i<ex.length,A:=λi=>[.rp ((exC ex).drop (i*4)),.int .i64 regs],R:=λi=>.bool (Z0m regs (ex.getD i default)),body:=(by kernel_rfl),inj:=hinj,ok:=hall }] rfl
 have q1:∀a b c d H,Z02 Y00 O H 140 [.int .i64 a,.int .i64 b,.int .i64 c,.bool d]=some (.bool (inW a b c d),H):=λa b c d H=>p1 (a,b,c,d) trivial H
 have q2:∀i (h:i<ex.length) H,Z02 Y00 O H 141 [.rp ((exC ex).drop (i*4)),.int .i64 regs]=some (.bool (Z0m regs ex[i]),H):=λi h H=>by
  have hg:ex.getD i default=ex[i]'h:=by simp[Y0l,h]
  have:=p2 i h H
  simpa only[hg]using this
 clear p1 p2 hinj hall
 simp only[icells,exA]
 by_cases hk:1<=kind/\kind<=13
 · obtain⟨k,rfl⟩:∃k:Nat,kind=k:=⟨kind.toNat,by omega⟩
   have e1:decide ((k:Int)<1)=false:=by simp;omega
   have e2:decide ((k:Int)>13)=false:=by simp;omega
   have hx:=Ze7 k (by omega) (by omega)
   have hr:Z0y regs n ⟨k,reg,loc,order,to,ex⟩=(inW reg 0 regs (Z0R k)&&(inW loc 0 6 (Z3o k)&&(inW order 1 7 (Z5p k)&&(inW to 0 n (toB k)&&(((ex.length:Int)==ZiZ k)&&rightPL regs ex))))):=by
    unfold Z0y
    rw[show decide (1<=(k:Int)/\(k:Int)<=13)=true by simpa using hk]
    rfl
   rw[hr]
   simp only[ZgN]at hx
   clear hr
   generalize Z0R k=b1 at *
   generalize Z3o k=b2 at *
   generalize Z5p k=b3 at *
   generalize toB k=b4 at *
   generalize ZiZ k=nx at *
   have q11:=q1 reg 0 regs b1
   have q12:=q1 loc 0 6 b2
   have q13:=q1 order 1 7 b3
   have q14:=q1 to 0 n b4
   clear q1
   generalize inW reg 0 regs b1=w1 at *
   generalize inW loc 0 6 b2=w2 at *
   generalize inW order 1 7 b3=w3 at *
   generalize inW to 0 n b4=w4 at *
   refine Z05 follows Z07 hO Tryz.func93 rfl ?_
   have hw:(w1&&(w2&&(w3&&w4)))=true\/(w1&&(w2&&(w3&&w4)))=false:=by cases (w1&&(w2&&(w3&&w4)))<;>simp
   rcases hw with hw|hw
   · simp only[Y0d]at hw
     obtain⟨rfl,rfl,rfl,rfl⟩:=hw
     simp only[Y0e]
     cases hn:((ex.length:Int)==nx) with
     |false =>
      have e3:((ex.length:Int) != nx)=true:=by simp only[bne,hn];rfl
      repeat' ((conv=>whnf);first|refine exI (q11 _) ?_|refine exI (q12 _) ?_|refine exI (q13 _) ?_|refine exI (q14 _) ?_|refine exI hx ?_|(with_reducible refine ixJ k rfl ?_ ?_;focus omega)|refine stp ?_|with_reducible apply Z01<;>intro h)
      all_goals rfl
     |true =>
      have e3:((ex.length:Int) != nx)=false:=by simp only[bne,hn];rfl
      rw[Y0e]
      repeat' ((conv=>whnf);first|refine exI (q11 _) ?_|refine exI (q12 _) ?_|refine exI (q13 _) ?_|refine exI (q14 _) ?_|refine exI hx ?_|(with_reducible refine ixJ k rfl ?_ ?_;focus omega)|refine stp ?_|with_reducible apply Z01<;>intro h)
      conv=>whnf
      clear q11 q12 q13 q14 hx
      refine⟨Nat,(λi=>i<=ex.length/\rightPL regs (ex.take i)=true),(λi=>[(1,.rp ([.int .i64 k,.int .i64 reg,.int .i64 loc,.int .i64 order,.int .i64 to,.rs ex.length 4 (exC ex)]++rest)),(2,.ptr 0 0),(80,.int .i64 ex.length),(81,.int .i64 i)]),(λi=>[⟨true,0,0,.cells [.int .i64 regs,.rs n 6 cs] 24⟩]),(λi=>ex.length-i),⟨0,⟨Y09 _,rfl⟩,?_⟩,?_⟩
      · refine Y0a [0] rfl ?_ ⟨hbp,trivial⟩ rfl
        exact wks
      rintro i ⟨hi,hall⟩
      dsimp only
      by_cases hlt:i<ex.length
      · have e3:decide ((i:Int)<(ex.length:Int))=true:=by simpa using hlt
        have q2':=q2 i hlt
        have hat:=Z25 regs ex i hlt
        rw[hall,Y0e]at hat
        have hst:=Z2u (regs:=regs) hlt
        generalize Z0m regs ex[i]=r at *
        cases r with
        |true =>
         repeat' ((conv=>whnf);first|refine exI (q2' _) ?_|(with_reducible refine ixJ i rfl ?_ ?_;focus omega)|refine stp ?_|with_reducible apply Z01<;>intro h)
         conv=>whnf
         refine⟨i+1,⟨hlt,hat⟩,by show ex.length-(i+1)<ex.length-i;omega,?_⟩
         refine Y0a [0] rfl ?_ ⟨hbp,trivial⟩ rfl
         exact wks
        |false =>
         rw[hst rfl]
         repeat' ((conv=>whnf);first|refine exI (q2' _) ?_|(with_reducible refine ixJ i rfl ?_ ?_;focus omega)|refine stp ?_|with_reducible apply Z01<;>intro h)
         all_goals rfl
      · have e3:decide ((i:Int)<(ex.length:Int))=false:=by simpa using hlt
        have hi2:i=ex.length:=by omega
        subst hi2
        rw[Y0c]at hall
        rw[hall]
        repeat' ((conv=>whnf);first|refine stp ?_|with_reducible apply Z01<;>intro h)
        all_goals rfl
   · rw[show (w1&&(w2&&(w3&&(w4&&(((ex.length:Int)==nx)&&rightPL regs ex)))))=false by revert hw;cases w1<;>cases w2<;>cases w3<;>cases w4<;>simp]
     cases w1 with
     |false =>
      repeat' ((conv=>whnf);first|refine exI (q11 _) ?_|refine exI (q12 _) ?_|refine exI (q13 _) ?_|refine exI (q14 _) ?_|refine exI hx ?_|(with_reducible refine ixJ k rfl ?_ ?_;focus omega)|refine stp ?_|with_reducible apply Z01<;>intro h)
      all_goals rfl
     |true =>
      cases w2 with
      |false =>
       repeat' ((conv=>whnf);first|refine exI (q11 _) ?_|refine exI (q12 _) ?_|refine exI (q13 _) ?_|refine exI (q14 _) ?_|refine exI hx ?_|(with_reducible refine ixJ k rfl ?_ ?_;focus omega)|refine stp ?_|with_reducible apply Z01<;>intro h)
       all_goals rfl
      |true =>
       cases w3 with
       |false =>
        repeat' ((conv=>whnf);first|refine exI (q11 _) ?_|refine exI (q12 _) ?_|refine exI (q13 _) ?_|refine exI (q14 _) ?_|refine exI hx ?_|(with_reducible refine ixJ k rfl ?_ ?_;focus omega)|refine stp ?_|with_reducible apply Z01<;>intro h)
        all_goals rfl
       |true =>
        cases w4 with
        |false =>
         repeat' ((conv=>whnf);first|refine exI (q11 _) ?_|refine exI (q12 _) ?_|refine exI (q13 _) ?_|refine exI (q14 _) ?_|refine exI hx ?_|(with_reducible refine ixJ k rfl ?_ ?_;focus omega)|refine stp ?_|with_reducible apply Z01<;>intro h)
         all_goals rfl
        |true=>cases hw
 · have hr : Z0y regs n ⟨kind, reg, loc, order, to, ex⟩ = false := by
    unfold Z0y
    rw[show decide (1<=kind/\kind<=13)=false by simpa using hk];rfl
   rw[hr]
   refine Z05 follows Z07 hO Tryz.func93 rfl ?_
   by_cases h1:kind<1
   · have e1:decide (kind<1)=true:=by simpa using h1
     repeat' ((conv=>whnf);first|refine stp ?_|with_reducible apply Z01<;>intro h)
     all_goals rfl
   · have e1:decide (kind<1)=false:=by simpa using h1
     have e2:decide (kind>13)=true:=by simp;omega
     repeat' ((conv=>whnf);first|refine stp ?_|with_reducible apply Z01<;>intro h)
     all_goals rfl
end Go.Proofs.YthbimonbnaodkaaGreatDoor.lex
end
section
namespace Go.Proofs.YthbimonbnaodkaaGreatDoor.lex
open Go.Abs Go.RowKit Go.Flat
instance:Inhabited (In Ex):=⟨⟨0,0,0,0,0,[]⟩⟩
def Zgg(c:Cd):Bool:=c.ins.any λi=>i.ex.any Z4X
def ZfS(c:Cd):Bool:=match c.ins[c.ins.length-1]? with
 |some i=>i.kind==10 || (i.kind==12 || i.kind==13)
 |none=>false
def Z2o(c:Cd):Int:=if (16<c.regs\/4000<c.ins.length)\/Zgg c=true then 3 else if c.regs<0\/c.ins.length=0 then 2 else if c.ins.all (Z0y c.regs c.ins.length)=false then 2 else if ZfS c=true then 0 else 2
theorem ZoJ{α : Type}{p : α -> Bool}(l:List α)(i:Nat)(h:i<l.length):(l.take (i+1)).any p=((l.take i).any p || p l[i]):=by
 rw[Y0E h,List.any_append];simp
theorem Znt{α : Type}{p : α -> Bool}(l:List α)(i:Nat)(h:i<l.length):(l.take (i+1)).all p=((l.take i).all p&&p l[i]):=by
 rw[Y0E h,List.all_append];simp
theorem Z8e{α : Type}{p : α -> Bool}{l:List α}{i:Nat}(h:i<l.length)(h2:p l[i]=true):l.any p=true:=List.any_eq_true.2 ⟨_,List.getElem_mem h,h2⟩
theorem Z6h{α : Type}{p : α -> Bool}{l:List α}{i:Nat}(h:i<l.length)(h2:p l[i]=false):l.all p=false:=by
 rw[Bool.eq_false_iff];intro h3
 rw[List.all_eq_true.1 h3 _ (List.getElem_mem h)]at h2;cases h2
def ckH(regs:Int)(n:Nat)(cs:List AV)(s:Nat):Z00:=[⟨true,0,0,.cells [.int .i64 regs,.rs n 6 cs] 24⟩,⟨true,1,0,.cells [.int .i64 s] 3⟩]
theorem Zjr(regs:Int)(n:Nat)(cs:List AV)(e:Ex)(rest:List AV)(hok:okE e):Z10 Y00 runLives.gl 92 [.rp (e.cells++rest),.int .i64 1,.ptr 1 0] (ckH regs n cs 0) (.bool (smE e 1 0).1) (ckH regs n cs (smE e 1 0).2):=by
 have hM:=Ze4 (gl:=runLives.gl) (Z0a e) e rest 1 0 (Y06 _) hok (by omega) (by omega) (by omega)
 generalize (smE e 1 0).1=b at *
 generalize (smE e 1 0).2=t at *
 have h:=Zbg (m:=[1]) (n:=3) (Hc:=ckH regs n cs 0) (cargs:=[.rp (e.cells++rest),.int .i64 1,.ptr 1 0]) hM rfl ?_ rfl rfl rfl rfl rfl rfl
 · have e1:ZdV [1] (szH t) 0 (ckH regs n cs 0)=ckH regs n cs t:=rfl
   rw[e1]at h
   exact h
 ·exact⟨hbp,trivial⟩
theorem Zai{a b:Ex}{r s:List AV}(h:a.cells++r=b.cells++s):a=b:=Z0M _ _ (List.append_inj_left h (by rw[Z2c,Z2c]))
theorem Z1g{a b:Ins}(h:icells a=icells b):a=b:=by
 obtain⟨k,r,l,o,t,x⟩:=a
 obtain⟨k',r',l',o',t',x'⟩:=b
 simp only[icells,List.cons.injEq,AV.int.injEq,true_and,and_true]at h
 obtain⟨rfl,rfl,rfl,rfl,rfl,h⟩:=h
 rw[Z83 h]
theorem Z8m{a b:Ins}{r s:List AV}(h:icells a++r=icells b++s):a=b:=Z1g (List.append_inj_left h rfl)
theorem ZmC(l:List Ins)(k:Nat)(h:k<l.length):tk 1 (((inC l).drop (k*6)).drop 5)=some [exA l[k].ex]:=by rw[Z94 l k h];rfl
theorem Zo4(l:List Ins)(k:Nat)(h:k<l.length):tk 1 (((inC l).drop (k*6)).drop 0)=some [.int .i64 l[k].kind]:=by rw[Z94 l k h];rfl
theorem Z14(c:Cd)(hok:okC c):ValOK Y00 runLives.gl 31 [c.av] (.int .i64 (Z2o c)):=by
 obtain⟨regs,ins⟩:=c
 obtain⟨hl,hx⟩:=hok
 simp only at hl hx
 have hinj : ∀ p q : Ex × List AV, okE p.1 -> okE q.1 -> [AV.rp (p.1.cells ++ p.2), .int .i64 1, .ptr 1 0] = [AV.rp (q.1.cells ++ q.2), .int .i64 1, .ptr 1 0] -> ckH regs ins.length (inC ins) 0 = ckH regs ins.length (inC ins) 0 ->
   AV.bool (smE p.1 1 0).1 = .bool (smE q.1 1 0).1/\ckH regs ins.length (inC ins) (smE p.1 1 0).2=ckH regs ins.length (inC ins) (smE q.1 1 0).2:=λp q _ _ ha _=>by
  simp only[List.cons.injEq,AV.rp.injEq,and_true]at ha
  rw[Zai ha];exact⟨rfl,rfl⟩
 have hinj2 : ∀ p q : Ins × List AV, (okL p.1.ex /\ p.1.ex.length <= 9223372036854775807) -> (okL q.1.ex /\ q.1.ex.length <= 9223372036854775807) -> [AV.agg [.int .i64 regs, .rs ins.length 6 (inC ins)], AV.rp (icells p.1 ++ p.2)] = [AV.agg [.int .i64 regs, .rs ins.length 6 (inC ins)], AV.rp (icells q.1 ++ q.2)] ->
   AV.bool (Z0y regs ins.length p.1) = .bool (Z0y regs ins.length q.1):=λp q _ _ ha=>by
  simp only[List.cons.injEq,AV.rp.injEq,and_true,true_and]at ha
  rw[Z8m ha]
 obtain⟨O,hO,⟨p1,-⟩,p2,-⟩:=Z5E (P:=Y00) (gl:=runLives.gl) [{ I:=Ex×List AV,f:=92,G:=λp=>okE p.1,A:=λp=>[.rp (p.1.cells++p.2),.int .i64 1,.ptr 1 0],H:=λp=>ckH regs ins.length (inC ins) 0,R:=λp=>.bool (smE p.1 1 0).1,O:=λp=>ckH regs ins.length (inC ins) (smE p.1 1 0).2,body:=(by kernel_rfl),inj:=hinj,ok:=λp hp=>Zjr regs ins.length (inC ins) p.1 p.2 hp }]
  [{ I:=Ins×List AV,f:=93,G:=λp=>okL p.1.ex/\p.1.ex.length<=9223372036854775807,A:=λp=>[.agg [.int .i64 regs,.rs ins.length 6 (inC ins)],.rp (icells p.1++p.2)],R:=λp=>.bool (Z0y regs ins.length p.1),body:=(by kernel_rfl),inj:=hinj2,ok:=λp hp=>⟨rfl,Zh3 regs ins.length (inC ins) p.1 p.2 hp.1 hp.2⟩ }] rfl
 have q1:∀(ex:List Ex) m (h:m<ex.length),okL ex->Z02 Y00 O (ckH regs ins.length (inC ins) 0) 92 [.rp ((exC ex).drop (m*4)),.int .i64 1,.ptr 1 0]=some (.bool (!Z4X ex[m]),ckH regs ins.length (inC ins) (smE ex[m] 1 0).2):=λex m h ho=>by
  rw[Z6D ex m h,<- ZnI]
  exact p1 (ex[m],_) (Z0k ho _ (Z03 h))
 have q2:∀i (h:i<ins.length) H,Z02 Y00 O H 93 [.agg [.int .i64 regs,.rs ins.length 6 (inC ins)],.rp ((inC ins).drop (i*6))]=some (.bool (Z0y regs ins.length ins[i]),H):=λi h H=>by
  rw[Z94 ins i h]
  exact p2 (ins[i],_) ⟨(hx _ (Z03 h)).2,(hx _ (Z03 h)).1⟩ H
 clear p1 p2 hinj hinj2
 unfold Z2o
 simp only[Cd.av,ckH]at q1⊢
 by_cases h1:16<regs\/4000<ins.length
 · rw[if_pos (.inl h1)]
   refine Z05 follows Z07 hO Tryz.func31 rfl ?_
   by_cases h2:16<regs
   · have e1:decide (regs>16)=true:=by simpa using h2
     repeat' ((conv=>whnf);first|refine stp ?_|with_reducible apply Z01<;>intro h)
     all_goals rfl
   · have e1:decide (regs>16)=false:=by simpa using h2
     have e2:decide ((ins.length:Int)>4000)=true:=by simp;omega
     repeat' ((conv=>whnf);first|refine stp ?_|with_reducible apply Z01<;>intro h)
     all_goals rfl
 have e1:decide (regs>16)=false:=by simp;omega
 have e2:decide ((ins.length:Int)>4000)=false:=by simp;omega
 refine Z05 follows Z07 hO Tryz.func31 rfl ?_
 repeat' ((conv=>whnf);first|refine stp ?_|with_reducible apply Z01<;>intro h)
 conv=>whnf
 refine⟨Nat,(λi=>i<=ins.length/\(ins.take i).any (λi=>i.ex.any Z4X)=false),(λi=>[(1,.ptr 0 0),(18,.int .i64 ins.length),(19,.int .i64 i)]),(λi=>[⟨true,0,0,.cells [.int .i64 regs,.rs ins.length 6 (inC ins)] 24⟩]),(λi=>ins.length-i),⟨0,⟨Y09 _,rfl⟩,?_⟩,?_⟩
 · refine Y0a [0] rfl ?_ ⟨hbp,trivial⟩ rfl
   exact wks
 rintro i ⟨hi,hall⟩
 dsimp only
 by_cases hlt:i<ins.length
 · have e3:decide ((i:Int)<(ins.length:Int))=true:=by simpa using hlt
   have hx5:=ZmC ins i hlt
   have hat:=ZoJ (p:=λi:Ins=>i.ex.any Z4X) ins i hlt
   rw[hall,Bool.false_or]at hat
   have hbg:ins[i].ex.any Z4X=true->Zgg ⟨regs,ins⟩=true:=λh=>Z8e (p:=λi:Ins=>i.ex.any Z4X) hlt h
   have hxi:=hx _ (Z03 hlt)
   have q1':=q1 ins[i].ex
   clear q1
   generalize ins[i]=y at *
   obtain⟨k,r,lo,od,to,ex⟩:=y
   simp only[exA]at *
   repeat' ((conv=>whnf);first|refine exI hx5 ?_|(with_reducible refine ixJ i rfl ?_ ?_;focus omega)|refine stp ?_|with_reducible apply Z01<;>intro h)
   conv=>whnf
   refine⟨Nat,(λm=>m<=ex.length/\(ex.take m).any Z4X=false),(λm=>[(1,.ptr 0 0),(3,.int .i64 i),(18,.int .i64 ins.length),(19,.int .i64 i),(28,.int .i64 ex.length),(29,.int .i64 m)]),(λm=>[⟨true,0,0,.cells [.int .i64 regs,.rs ins.length 6 (inC ins)] 24⟩]),(λm=>ex.length-m),⟨0,⟨Y09 _,rfl⟩,?_⟩,?_⟩
   · refine Y0a [0] rfl ?_ ⟨hbp,trivial⟩ rfl
     exact wks
   rintro m ⟨hm,hall2⟩
   dsimp only
   by_cases hmt:m<ex.length
   · have e4:decide ((m:Int)<(ex.length:Int))=true:=by simpa using hmt
     have q3:=q1' m hmt hxi.2
     have ham:=ZoJ (p:=Z4X) ex m hmt
     rw[hall2,Bool.false_or]at ham
     have hb2:=Z8e (p:=Z4X) (l:=ex) hmt
     generalize (smE ex[m] 1 0).2=t at *
     generalize Z4X ex[m]=b at *
     cases b with
     |false =>
      simp only[Bool.not_false]at q3
      repeat' ((conv=>whnf);first|refine exI q3 ?_|refine exI hx5 ?_|(with_reducible refine ixJ i rfl ?_ ?_;focus omega)|(with_reducible refine ixJ m rfl ?_ ?_;focus omega)|refine stp ?_|with_reducible apply Z01<;>intro h)
      conv=>whnf
      refine⟨m+1,⟨hmt,ham⟩,by show ex.length-(m+1)<ex.length-m;omega,?_⟩
      refine Y0a [0] rfl ?_ ⟨hbp,trivial⟩ rfl
      exact wks
     |true =>
      simp only[Bool.not_true]at q3
      rw[if_pos (.inr (hbg (hb2 rfl)))]
      repeat' ((conv=>whnf);first|refine exI q3 ?_|refine exI hx5 ?_|(with_reducible refine ixJ i rfl ?_ ?_;focus omega)|(with_reducible refine ixJ m rfl ?_ ?_;focus omega)|refine stp ?_|with_reducible apply Z01<;>intro h)
      all_goals rfl
   · have e4:decide ((m:Int)<(ex.length:Int))=false:=by simpa using hmt
     have hm2:m=ex.length:=by omega
     subst hm2
     rw[Y0c]at hall2
     rw[hall2]at hat
     repeat' ((conv=>whnf);first|refine stp ?_|with_reducible apply Z01<;>intro h)
     conv=>whnf
     refine⟨i+1,⟨hlt,hat⟩,by show ins.length-(i+1)<ins.length-i;omega,?_⟩
     refine Y0a [0] rfl ?_ ⟨hbp,trivial⟩ rfl
     exact wks
 · have e3:decide ((i:Int)<(ins.length:Int))=false:=by simpa using hlt
   have hi2:i=ins.length:=by omega
   subst hi2
   rw[Y0c]at hall
   clear q1
   have hbig:¬((16<regs\/4000<ins.length)\/Zgg ⟨regs,ins⟩=true):=by
    rintro (h|h)
    ·exact h1 h
    ·rw[show Zgg ⟨regs,ins⟩=false from hall]at h;cases h
   rw[if_neg hbig]
   by_cases h2:regs<0\/ins.length=0
   · rw[if_pos h2]
     by_cases h3:regs<0
     · have e4:decide (regs<0)=true:=by simpa using h3
       repeat' ((conv=>whnf);first|refine stp ?_|with_reducible apply Z01<;>intro h)
       all_goals rfl
     · have e4:decide (regs<0)=false:=by simpa using h3
       have e5:((ins.length:Int)==0)=true:=by simp;rcases h2 with h2|h2;exact absurd h2 h3;simpa using h2
       repeat' ((conv=>whnf);first|refine stp ?_|with_reducible apply Z01<;>intro h)
       all_goals rfl
   rw[if_neg h2]
   have e4:decide (regs<0)=false:=by simp;omega
   have h0:ins.length≠0:=λe=>h2 (.inr e)
   have e5:((ins.length:Int)==0)=false:=by simp;intro e;exact h0 (by rw[e];rfl)
   repeat' ((conv=>whnf);first|refine stp ?_|with_reducible apply Z01<;>intro h)
   conv=>whnf
   refine⟨Nat,(λi=>i<=ins.length/\(ins.take i).all (Z0y regs ins.length)=true),(λi=>[(1,.ptr 0 0),(55,.int .i64 ins.length),(56,.int .i64 i)]),(λi=>[⟨true,0,0,.cells [.int .i64 regs,.rs ins.length 6 (inC ins)] 24⟩]),(λi=>ins.length-i),⟨0,⟨Y09 _,rfl⟩,?_⟩,?_⟩
   · refine Y0a [0] rfl ?_ ⟨hbp,trivial⟩ rfl
     exact wks
   rintro i ⟨hi,hall3⟩
   dsimp only
   by_cases hlt:i<ins.length
   · have e6:decide ((i:Int)<(ins.length:Int))=true:=by simpa using hlt
     have q3:=q2 i hlt
     have hat:=Znt (p:=Z0y regs ins.length) ins i hlt
     rw[hall3,Y0e]at hat
     have hst:=Z6h (p:=Z0y regs ins.length) hlt
     generalize Z0y regs ins.length ins[i]=b at *
     cases b with
     |true =>
      repeat' ((conv=>whnf);first|refine exI (q3 _) ?_|(with_reducible refine ixJ i rfl ?_ ?_;focus omega)|refine stp ?_|with_reducible apply Z01<;>intro h)
      conv=>whnf
      refine⟨i+1,⟨hlt,hat⟩,by show ins.length-(i+1)<ins.length-i;omega,?_⟩
      refine Y0a [0] rfl ?_ ⟨hbp,trivial⟩ rfl
      exact wks
     |false =>
      rw[if_pos (hst rfl)]
      repeat' ((conv=>whnf);first|refine exI (q3 _) ?_|(with_reducible refine ixJ i rfl ?_ ?_;focus omega)|refine stp ?_|with_reducible apply Z01<;>intro h)
      all_goals rfl
   · have e6:decide ((i:Int)<(ins.length:Int))=false:=by simpa using hlt
     have hi2:i=ins.length:=by omega
     subst hi2
     rw[Y0c]at hall3
     rw[if_neg (by rw[hall3];decide)]
     have hlast:ins.length-1<ins.length:=by omega
     have hk:=Zo4 ins (ins.length-1) hlast
     have hlb:ZfS ⟨regs,ins⟩=(ins[ins.length-1].kind==10 || (ins[ins.length-1].kind==12 || ins[ins.length-1].kind==13)):=by
      simp only[ZfS,Y05 hlast]
     rw[hlb]
     have w1:IntKind.i64.wrap ((ins.length:Int)-1)=((ins.length-1:Nat):Int):=by rw[Z2r (by omega) (by omega)];omega
     generalize ins[ins.length-1].kind=k at *
     cases c1:(k==10)<;>cases c2:(k==12)<;>cases c3:(k==13)
     all_goals (repeat' ((conv=>whnf);first|refine exI hk ?_|(with_reducible refine exW w1 ?_)|(with_reducible refine ixJ (ins.length-1) rfl ?_ ?_;focus omega)|refine stp ?_|with_reducible apply Z01<;>intro h))
     all_goals rfl
end Go.Proofs.YthbimonbnaodkaaGreatDoor.lex
end
section
namespace Go.Proofs.YthbimonbnaodkaaGreatDoor.lex
open Go.Abs Go.RowKit Go.Flat
variable {gl:Z0o}
structure Fine (c:Cd):Prop where
 good:Good c.ins
 right:∀i∈c.ins,Z0y c.regs c.ins.length i=true
 reg0:0<=c.regs
 reg1:c.regs<=16
 big:Zgg c=false
theorem Z2j{c:Cd}(h:Z2o c=0):Fine c:=by
 unfold Z2o at h
 split at h
 ·cases h
 rename_i h1
 split at h
 ·cases h
 rename_i h2
 split at h
 ·cases h
 rename_i h3
 split at h
 · rename_i h4
   have hr:∀i∈c.ins,Z0y c.regs c.ins.length i=true:=by
    have:c.ins.all (Z0y c.regs c.ins.length)=true:=by simpa using h3
    exact List.all_eq_true.1 this
   have hto:∀v,v<c.ins.length->(Z6O c.ins v).kind=10\/(Z6O c.ins v).kind=11->0<=(Z6O c.ins v).to/\(Z6O c.ins v).to<c.ins.length:=λv hv hk=>by
    rw[Z15 hv]at hk⊢
    have:=hr _ (Z03 hv)
    unfold Z0y at this
    simp only[Y0d]at this
    have h5:=this.2.2.2.2.1
    have ht:toB c.ins[v].kind=true:=by unfold toB;rcases hk with h|h<;>simp[h]
    rw[ht]at h5
    simp only[inW,if_true,Y0d,decide_eq_true_eq]at h5
    exact h5
   refine⟨⟨by omega,by omega,λv hv hk=>?_,λv hv w hw=>?_⟩,hr,by omega,by omega,by rw[<- Bool.not_eq_true];exact λh=>h1 (.inr h)⟩
   ·have:=hto v hv hk;omega
   · unfold nxL nxI at hw
     split at hw
     · rename_i hk
       have:=hto v hv (.inl hk)
       simp only[Y0v,Y0w,or_false]at hw
       omega
     · rename_i hk10
       have hlast:¬((Z6O c.ins v).kind=12\/(Z6O c.ins v).kind=13)->v+1<c.ins.length:=λhk=>by
        refine Nat.lt_of_not_le λhle=>?_
        have hv2:v=c.ins.length-1:=by omega
        unfold ZfS at h4
        rw[<- hv2,Y05 hv]at h4
        rw[Z15 hv]at hk hk10
        simp only[Y0F,beq_iff_eq]at h4
        omega
       split at hw
       · rename_i hk
         have:=hto v hv (.inr hk)
         have:=hlast (by omega)
         simp only[Y0v,Y0w,or_false]at hw
         omega
       · split at hw
         ·cases hw
         · rename_i hk
           have:=hlast hk
           simp only[Y0v,Y0w,or_false]at hw
           omega
 ·cases h
open Classical in
noncomputable def Zni(nx:Nat->List Nat)(v:Nat):Bool:=decide (Rch nx v)
theorem Zem{nx:Nat->List Nat}{v:Nat}:Zni nx v=true ↔ Rch nx v:=by unfold Zni;simp
theorem Good.nx8{l:List Ins}(h:Good l){v:Nat}(hv:v<l.length){w:Nat}(hw:w∈Z0v l v):w<l.length:=h.nx v hv w ((Zew l v w).1 hw)
theorem Good.lt8{l:List Ins}(h:Good l){v:Nat}(hv:Rch (Z0v l) v):v<l.length:=h.lt ((Znf (Zew l) v).1 hv)
theorem Z61(l:List Ins)(v:Nat):(Z0v l v).length<=2:=by
 unfold Z0v nx8
 repeat' split
 all_goals simp
theorem Zlb(n:Nat)(h:n<=1048576)(H:Z00):Z1B Y00 38 (.int .i64 n) (.int .i64 n) H=some (.slice H.length 0 n n 1,Z1s H (Z2D n [.bool false]) 4):=by
 have hz:tsz Y00 4=some 1:=by kernel_rfl
 have hb:(Y00.info? 4).map (·.bytes)=some 1:=by kernel_rfl
 have hu:Z2k Y00 4=some (.bool false):=by kernel_rfl
 exact Z7F Tryz.underlying38 hz hb hu rfl (by decide) n (by omega) (by omega)
theorem ZeF(n:Nat)(out:Nat->Bool)(stk:List Nat):Z1P n out stk<=2*n+stk.length:=by
 unfold Z1P
 have:∀l:List Nat,(l.map λv=>if out v=true then 0 else 2).sum<=2*l.length:=by
  intro l
  induction l with
  |nil=>simp
  |cons x l ih=>simp only[List.map_cons,List.sum_cons,Y0b];split<;>omega
 have:=this (List.range n)
 simp only[List.length_range]at this
 omega
theorem Z75(n:Nat)(out:Nat->Bool)(stk:List Nat):stk.length<=Z1P n out stk:=by unfold Z1P;omega
def reH(regs:Int)(l:List Ins)(out:Nat->Bool)(stk:List Nat):Z00 :=
 [⟨true,0,0,.cells [.int .i64 regs,.rs l.length 6 (inC l)] 24⟩,⟨true,1,0,.cells (arr (λv=>.bool (out v)) l.length) 4⟩,⟨true,2,0,.cells (nis stk.reverse) 3⟩]
theorem Z0H(out:Nat->Bool)(n:Nat):refsL (arr (λv=>.bool (out v)) n) []=[]:=Z4x (λ_=>rfl) n
end Go.Proofs.YthbimonbnaodkaaGreatDoor.lex
end
namespace Go.Proofs.YthbimonbnaodkaaGreatDoor.lex
open Go.Abs Go.RowKit
section
theorem ZnA{sn:Z0g}{z:Nat}{v:Value}(h:VR sn noI .nslice v):VR sn noI (.rs 0 z []) v:=by simp only[VR]at h⊢;exact .inl ⟨trivial,trivial,h⟩
def Nv(u u2:AV):Prop:=∀(sn:Z0g)(v:Value),VR sn noI u v->VR sn noI u2 v
def NvL:List AV->List AV->Prop
 |[],[]=>True
 |a::l,b::l2=>Nv a b/\NvL l l2
 |_,_=>False
theorem Nv.same{u:AV}:Nv u u:=λ_ _ h=>h
theorem Nv.nil{z:Nat}:Nv .nslice (.rs 0 z []):=λ_ _ h=>ZnA h
theorem NvL.mr{sn:Z0g}{b:Nat}:∀{l l2:List AV}{o:Nat},NvL l l2->MR sn l b o->MR sn l2 b o
 |[],[],o,_,h=>h
 |a::l,c::l2,o,h,k=>by
  simp only[MR]at k⊢
  obtain⟨⟨v,k1,k2⟩,k3⟩:=k
  exact⟨⟨v,k1,h.1 _ _ k2⟩,NvL.mr h.2 k3⟩
 |[],_::_,_,h,_=>h.elim
 |_::_,[],_,h,_=>h.elim
theorem NvL.lr{sn:Z0g}:∀{l l2:List AV}{vs:List Value},NvL l l2->LR sn noI l vs->LR sn noI l2 vs
 |[],[],_,_,h=>h
 |a::l,c::l2,vs,h,k=>by
  simp only[LR]at k⊢
  obtain⟨d,ds,e,k1,k2⟩:=k
  exact⟨d,ds,e,h.1 _ _ k1,NvL.lr h.2 k2⟩
 |[],_::_,_,h,_=>h.elim
 |_::_,[],_,h,_=>h.elim
theorem Nv.rs{n z:Nat}{l l2:List AV}(h:NvL l l2)(e:l2.length=l.length):Nv (.rs n z l) (.rs n z l2):=λsn v k=>by
 simp only[VR]at k⊢
 rcases k with ⟨k1,rfl,k3⟩|⟨a,cap,k1,k2,k3,k4,k5⟩
 ·exact .inl ⟨k1,List.length_eq_zero_iff.1 e,k3⟩
 ·exact .inr ⟨a,cap,k1,k2,by omega,NvL.mr h k4,k5⟩
theorem Nv.agg{l l2:List AV}(h:NvL l l2):Nv (.agg l) (.agg l2):=λsn v k=>by
 simp only[VR]at k⊢
 obtain⟨d,k1,k2⟩:=k
 exact⟨d,k1,NvL.lr h k2⟩
end
end Go.Proofs.YthbimonbnaodkaaGreatDoor.lex
section
namespace Go.Proofs.YthbimonbnaodkaaGreatDoor.lex
open Go.Abs Go.RowKit Go.Flat
def Zbj:Ex:=.mk 2 0 [48] []
def Zbk:Ex:=.mk 1 1 [] []
def Z1D:List Ins:=[⟨2,0,0,3,0,[]⟩,⟨11,0,0,0,3,[.mk 7 0 [] [Zbj,Zbk]]⟩,⟨3,0,0,4,0,[.mk 14 0 [] [Zbj,Zbk]]⟩,⟨13,0,0,0,0,[]⟩]
def linC:Cd:=⟨1,Z1D⟩
theorem Zmt:Z2o linC=0:=by kernel_rfl
theorem Zbi:okC linC:=by
 simp[okC,linC,Z1D,okL,okE,okN,Zbj,Zbk]
theorem Zka:∀i∈linC.ins,∀e∈i.ex,Z0a e<=800000:=by
 simp[linC,Z1D,Zbj,Zbk,Z0a,sizeL]
theorem Zk8{gl:Z0o}:ValOK Y00 gl 76 [] linC.av:=by
 have hΦ : ∀r':AV,Nv r' linC.av->∀sn v,VR sn noI r' v->VR sn noI linC.av v:=λr' h=>h
 refine fn_valX follows Z07 (Z3d follows Z07 Z06 3) hΦ Tryz.func76 rfl (Z55 (isC:=λ_=>false) 3) ?_
 repeat' ((conv=>whnf);first|refine stp ?_|with_reducible apply Z01<;>intro h)
 all_goals (conv=>whnf)
 all_goals (repeat' first|exact trivial|exact Nv.same|exact Nv.nil|refine Nv.agg ?_|refine Nv.rs ?_ rfl|refine Y01 ?_ ?_)
end Go.Proofs.YthbimonbnaodkaaGreatDoor.lex
end
namespace Go.Proofs.YthbimonbnaodkaaGreatDoor.lex
open Go.Abs Go.RowKit
section
def lev(op:Int):Int :=
 if op=5 then 1 else if op=6 then 2 else if op=7\/op=8 then 3 else if op=9\/op=10 then 4 else if op=11 then 5 else if op=12 then 6 else if op=13 then 7 else if op=14\/op=15 then 8 else if op=16 then 9 else if op=3\/op=4 then 10 else 11
def Z5T(op:Int):List UInt8 :=
 if op=3\/op=15 then [45] else if op=4 then [33] else if op=5 then [124,124] else if op=6 then [38,38] else if op=7 then [61,61] else if op=8 then [33,61] else if op=9 then [60] else if op=10 then [60,61] else if op=11 then [124]
 else if op=12 then [94] else if op=13 then [38] else if op=14 then [43] else if op=16 then [42] else []
def Zb5(o:Int):List UInt8 :=
 if o=1 then [110,97] else if o=2 then [114,108,120] else if o=3 then [97,99,113] else if o=4 then [114,101,108] else if o=5 then [97,114] else if o=6 then [115,99] else []
def Z3V(n:Nat):List UInt8:=if n<10 then [UInt8.ofNat (48+n)] else Z3V (n / 10)++[UInt8.ofNat (48+n % 10)]
def Z1W(n:Int):List UInt8:=Z3V n.toNat
def brk(p:Int×List UInt8)(n:Int):List UInt8:=if lev p.1<n then 40::(p.2++[41]) else p.2
def wrC(op num:Int)(name:List UInt8)(ks:List (Int×List UInt8)):List UInt8 :=
 if op=1 then Z1W num else if op=2 then name else match ks with
  |[]=>[]
  |[a]=>Z5T op++brk a 10
  |a::b::_=>brk a (lev op)++(32::(Z5T op++(32::brk b (lev op+1))))
mutual
def wrE:Ex->List UInt8
 | .mk op num name kids=>wrC op num name (wrL kids)
def wrL:List Ex->List (Int×List UInt8)
 |[]=>[]
 |e::l=>(e.op,wrE e)::wrL l
end
def rgI(n:Int):Prop:=-9223372036854775808<=n/\n<=9223372036854775807
mutual
def rgE:Ex->Prop
 | .mk _ n _ k=>rgI n/\rgL k
def rgL:List Ex->Prop
 |[]=>True
 |e::l=>rgE e/\rgL l
end
theorem ZcO:∀{l:List Ex},rgL l->∀e∈l,rgE e
 |x::l,h,e,he=>by
  simp only[rgL]at h
  rcases Y0v.1 he with rfl|he
  ·exact h.1
  ·exact ZcO h.2 e he
theorem Zaf:∀(k n:Nat),n<10 ^ (k+1)->(Z3V n).length<=k+1
 |0,n,h=>by rw[Z3V,if_pos (by omega)];simp
 |k+1,n,h=>by
  rw[Z3V]
  split
  ·simp
  · have:=Zaf k (n / 10) (by rw[Nat.pow_succ]at h;omega)
    simp;omega
theorem Zdf(n:Nat):Z3V n≠[]:=by
 rw[Z3V];split<;>simp
theorem Z1v{n:Int}(h:rgI n):(Z1W n).length<=20:=Zaf 19 n.toNat (by have:=h.2;omega)
theorem ZlW(op:Int):(Z5T op).length<=2:=by
 have hi:∀(c:Prop)[Decidable c](a b:List UInt8),a.length<=2->b.length<=2->(if c then a else b).length<=2:=λc _ a b h1 h2=>by split<;>assumption
 unfold Z5T
 repeat' (first|exact hi _ _ _ (by decide) (by decide)|refine hi _ _ _ (by decide) ?_)
theorem ZcR(o:Int):(Zb5 o).length<=3:=by
 unfold Zb5;repeat' split
 all_goals simp
theorem Zdl(p:Int×List UInt8)(n:Int):(brk p n).length<=p.2.length+2:=by
 unfold brk;split
 ·simp only[Y0b,Y02,Y0G];omega
 ·omega
def ZlO:List (Int×List UInt8)->Nat
 |[]=>0
 |p::l=>p.2.length+2+ZlO l
theorem Zly(op num:Int)(name:List UInt8)(ks:List (Int×List UInt8))(h:rgI num):(wrC op num name ks).length<=24+name.length+ZlO ks:=by
 have h1:=Z1v h
 have h2:=ZlW op
 unfold wrC
 split
 ·omega
 · split
   ·omega
   · match ks with
     |[]=>simp
     |[a] =>
      have:=Zdl a 10
      simp only[Y02,ZlO];omega
     |a::b::l =>
      have:=Zdl a (lev op)
      have:=Zdl b (lev op+1)
      simp only[Y02,Y0b,ZlO];omega
mutual
theorem Zgn:∀(e:Ex)(l:Int),rgE e->0<=Z0X e l->((wrE e).length:Int)+2<=64*(l-Z0X e l)
 | .mk op num name kids,l,hr,h=>by
  simp only[rgE]at hr
  simp only[Z0X,wrE]at h⊢
  have h1:=Zly op num name (wrL kids) hr.1
  have h2:=wrL_len kids (l-1-(name.length / 20:Nat)) hr.2 h
  have:=heftL_le kids (l-1-(name.length / 20:Nat))
  omega
theorem wrL_len:∀(k:List Ex)(l:Int),rgL k->0<=heftL k l->(ZlO (wrL k):Int)<=64*(l-heftL k l)
 |[],l,_,h=>by simp only[wrL,ZlO,heftL];omega
 |e::k,l,hr,h=>by
  simp only[rgL]at hr
  simp only[heftL,wrL,ZlO]at h⊢
  split at h
  · rename_i h0
    rw[if_pos h0]
    have h3:0<=Z0X e l:=by have:=heftL_le k (Z0X e l);omega
    have h1:=Zgn e l hr.1 h3
    have h2:=wrL_len k (Z0X e l) hr.2 h
    omega
  ·omega
end
end
section
variable {gl:Z0o}
abbrev tW:TypeId:=184
abbrev tB:TypeId:=5
theorem apB:Z7e Y00 106 9=some (5,1,1):=by kernel_rfl
theorem Zpz:Y00.underlying 212=some .unsafePointer:=by kernel_rfl
theorem ZpA:Y00.underlying 114=some (.pointer 116):=by kernel_rfl
theorem ZpJ:liesAt Y00 Y00.depth 184 1 0 116 1=true:=by kernel_rfl
theorem ZpK:Y00.cellsOf 184=3:=by kernel_rfl
theorem ZpI:tsz Y00 116=some 2:=by kernel_rfl
theorem ZpX{H:Z00}{b f:Nat}{c1 c2 c3:AV}(h:H[b]? = some ⟨true,f,0,.cells [c1,c2,c3] tW⟩):Zca Y00 212 114 b 0 H=true:=by
 unfold Zca
 simp only[h,Zpz,ZpA,ZpI,ZpK,ZpJ]
 rfl
theorem Zoi{orc:Orc}{ρ : Operand->Option AV}{o:Oper}{x:Operand}{H:Z00}{b f:Nat}{c1 c2 c3:AV}(ho:o.op = .convert 212 114 x)(hx : ρ x=some (.ptr b 0))(h:H[b]? = some ⟨true,f,0,.cells [c1,c2,c3] tW⟩):aop Y00 orc ρ o H=some (.ptr b 0,H):=by
 have hc:=ZpX h
 simp[aop,Z0s,Z2G,Z9l,ho,hx,ZkR,Zpz,ZpA,Zfc,hc]
theorem Z5D(l:List (List UInt8))(i:Nat)(h:i<l.length):(l.take (i+1)).flatten=(l.take i).flatten++l[i]:=by
 rw[Y0E h,Y0H];simp only[List.flatten_cons,List.flatten_nil,Y07]
theorem Zia(l:List (List UInt8))(i:Nat)(h:i<l.length):(l.take i).flatten.length+l[i].length<=l.flatten.length:=by
 have h1:l=l.take (i+1)++l.drop (i+1):=(List.take_append_drop _ _).symm
 have h2:=congrArg (λm=>m.flatten.length) h1
 simp only[Y0H,Y02,Z5D l i h]at h2
 omega
theorem ZnL (l : List (List UInt8)) (s : List UInt8) (d : Int) (hl : l.length <= 100) (h0 : s = [] -> ∃ x t, l = x :: t /\ x ≠ []) (hb : (s ++ l.flatten).length <= 1073741824) :
  Zcn Y00 gl 1 172 [.ptr 0 0,.rs l.length 1 (l.map AV.str)] (WH tW tB s d) (.tuple []) (WH tW tB (s++l.flatten) d):=by
 refine Za9 (λg=>false) 3 follows Z07 Z06 Tryz.func172 rfl ?_
 repeat' ((conv=>whnf);first|refine stp ?_|with_reducible apply Z01<;>intro h)
 conv=>whnf
 have hz:∀s:List UInt8,∃m,Zeq 1 0 m=true/\HpGe (WH tW tB s d) m m (WH tW tB s d) 0/\Z0L (m.map (Z0e (WH tW tB s d)))=true/\m[0]? = some 0:=by
  intro s
  cases s with
  |nil=>exact⟨[0],rfl,ZkW rfl rfl,rfl,rfl⟩
  |cons x s=>exact⟨[0,1],rfl,Zfm (s:=x::s) (Y0o _ _) rfl rfl rfl rfl rfl,rfl,rfl⟩
 refine⟨Nat×List UInt8,(λp=>p.1<=l.length/\p.2=s++(l.take p.1).flatten/\(p.2=[]->p.1=0)),(λp=>[(0,.ptr 0 0),(6,.rs l.length 1 (l.map AV.str)),(7,.int .i64 l.length),(8,.int .i64 p.1)]),(λp=>WH tW tB p.2 d),(λp=>l.length-p.1),⟨(0,s),⟨Y09 _,by simp,λ_=>rfl⟩,?_⟩,?_⟩
 · obtain⟨m,m1,m2,m3,m4⟩:=hz s
   refine FgLK.mk m m1 rfl ?_ m2 m3
   refine Y01 (Y04 m4 rfl) ?_
   refine Y01 (Y08 rfl) ?_
   refine Y01 (Y03 rfl) ?_
   exact⟨Y03 rfl,trivial⟩
 rintro⟨i,acc⟩ ⟨h1,h2,h3⟩
 dsimp only at h1 h2 h3
 dsimp only
 clear hz
 by_cases hlt:i<l.length
 · have e1:decide ((i:Int)<(l.length:Int))=true:=by simpa using hlt
   have hx:=Z1Q AV.str l i hlt (off:=i*1) (by omega)
   have hft:=Z5D l i hlt
   have hfl:=Zia l i hlt
   have hh:acc=[]->l[i]≠[]:=by
    intro e
    have hi:=h3 e
    subst hi
    rw[e]at h2
    have hs:s=[]:=by
     have:=h2.symm
     simp at this;exact this
    obtain⟨x',t',rfl,hx'⟩:=h0 hs
    simpa using hx'
   generalize l[i]=x at *
   have hab:acc.length+x.length<=1073741824:=by
    rw[h2,Y02]
    rw[Y02]at hb;omega
   have h4:acc++x=s++(l.take (i+1)).flatten:=by rw[hft,h2,Y0I]
   clear hft hfl hb h0 h2
   cases acc with
   |nil =>
    have hne:=hh rfl
    obtain⟨c,t,rfl⟩:∃c t,x=c::t:=by cases x with|nil=>exact absurd rfl hne|cons c t=>exact⟨c,t,rfl⟩
    simp only[WH]
    repeat' ((conv=>whnf);first|refine exI (Zoi rfl rfl rfl) ?_|refine exI hx ?_|refine exI (Zan apB (xs:=byt (c::t)) (n:=(c::t).length) rfl (by simp) ⟨by simp at hab⊢;omega,by simp at hab⊢;omega⟩) ?_|(with_reducible refine ixJ i rfl ?_ ?_;focus omega)|refine stp ?_|with_reducible apply Z01<;>intro h)
    conv=>whnf
    refine⟨(i+1,c::t),⟨hlt,h4,λe=>by cases e⟩,by show l.length-(i+1)<l.length-i;omega,FgLK.mk [0,1] rfl rfl ?_ (Zfm (s:=c::t) (Y0o _ _) rfl rfl rfl rfl rfl) rfl⟩
    refine Y01 (Y04 rfl rfl) ?_
    refine Y01 (Y08 rfl) ?_
    refine Y01 (Y03 rfl) ?_
    exact⟨Y03 rfl,trivial⟩
   |cons y u =>
    simp only[WH]
    by_cases hxe:x=[]
    · subst hxe
      repeat' ((conv=>whnf);first|refine exI hx ?_|refine exI (Z2q apB rfl) ?_|(with_reducible refine ixJ i rfl ?_ ?_;focus omega)|refine stp ?_|with_reducible apply Z01<;>intro h)
      conv=>whnf
      refine⟨(i+1,y::u),⟨hlt,by rw[<- h4];simp,λe=>by cases e⟩,by show l.length-(i+1)<l.length-i;omega,FgLK.mk [0,1] rfl rfl ?_ (Zfm (s:=y::u) (Y0o _ _) rfl rfl rfl rfl rfl) rfl⟩
      refine Y01 (Y04 rfl rfl) ?_
      refine Y01 (Y08 rfl) ?_
      refine Y01 (Y03 rfl) ?_
      exact⟨Y03 rfl,trivial⟩
    · have hxl:x.length≠0:=λe=>hxe (Y0s e)
      repeat' ((conv=>whnf);first|refine exI hx ?_|refine exI (Z1m apB (xs:=byt x) (n:=x.length) (cs:=byt (y::u)) rfl rfl (Z4U (by simp[ABody.len])) ((Z4g _).trans (Nat.mul_one _).symm) (Z89 x) hxl ⟨by simp at hab⊢;omega,by simp at hab⊢;omega⟩) ?_|(with_reducible refine ixJ i rfl ?_ ?_;focus omega)|refine stp ?_|with_reducible apply Z01<;>intro h)
      conv=>whnf
      refine⟨(i+1,y::(u++x)),⟨hlt,h4,λe=>by cases e⟩,by show l.length-(i+1)<l.length-i;omega,FgLK.mk [0,2] rfl rfl ?_ (Zfm (s:=y::(u++x)) (Y0o _ _) rfl rfl (show (y::u).length+x.length=(y::(u++x)).length by simp;omega) rfl (show byt (y::u)++byt x=byt (y::(u++x)) by rw[<- Z8a];rfl)) rfl⟩
      refine Y01 (Y04 rfl rfl) ?_
      refine Y01 (Y08 rfl) ?_
      refine Y01 (Y03 rfl) ?_
      exact⟨Y03 rfl,trivial⟩
 · have e1:decide ((i:Int)<(l.length:Int))=false:=by simpa using hlt
   have hi2:i=l.length:=by omega
   subst hi2
   rw[Y0c]at h2
   subst h2
   cases hc:s++l.flatten with
   |nil =>
    have:=h3 hc
    simp only[WH]
    repeat' ((conv=>whnf);first|refine stp ?_|with_reducible apply Z01<;>intro h)
    conv=>whnf
    exact⟨[0],rfl,ZkW (tB:=tB) rfl rfl,rfl,Y08 rfl⟩
   |cons y u =>
    simp only[WH]
    repeat' ((conv=>whnf);first|refine stp ?_|with_reducible apply Z01<;>intro h)
    conv=>whnf
    exact⟨[0,1],rfl,Zfm (s:=y::u) (Y0o _ _) rfl rfl rfl rfl rfl,rfl,Y08 rfl⟩
end
end Go.Proofs.YthbimonbnaodkaaGreatDoor.lex
section
namespace Go.Proofs.YthbimonbnaodkaaGreatDoor.shelf
open Go.Shelf
def Zkv:Go.Shelf.Ren:=⟨fun|285=>200|n=>n,fun|37=>106|53=>149|3=>3|4=>4|51=>145|9=>9|5=>5|0=>0|n=>n,fun|n=>n⟩
theorem fb10:Go.Proofs.Lays.n285 Y00 Zkv:={
 mixed:=by kernel_rfl
 f285:=Tryz.func200.trans (congrArg some (by kernel_rfl))
 t0:=Tryz.underlying0
 a0:=Tryz.isAgg0
 z0:=Tryz.sizeOf0
 v0:=Tryz.zeroValue0
 t3:=Y0x
 a3:=Y0y
 z3:=Y0z
 v3:=Y0A
 t4:=Y0J
 a4:=Tryz.isAgg4
 z4:=Tryz.sizeOf4
 v4:=Y0K
 t5:=Tryz.underlying5
 a5:=Tryz.isAgg5
 z5:=Tryz.sizeOf5
 v5:=Tryz.zeroValue5
 t9:=Tryz.underlying9
 a9:=Tryz.isAgg9
 z9:=Tryz.sizeOf9
 v9:=Tryz.zeroValue9
 t37:=Tryz.underlying106
 a37:=Tryz.isAgg106
 z37:=Tryz.sizeOf106
 v37:=Tryz.zeroValue106
 t51:=Tryz.underlying145
 a51:=Tryz.isAgg145
 z51:=Tryz.sizeOf145
 v51:=Tryz.zeroValue145
 t53:=Tryz.underlying149
 a53:=Tryz.isAgg149
 z53:=Tryz.sizeOf149
 v53:=Tryz.zeroValue149 }
def Zie:Go.Shelf.Ren:=⟨fun|129=>185|n=>n,fun|53=>149|3=>3|4=>4|46=>146|5=>5|9=>9|n=>n,fun|n=>n⟩
theorem fblen:Go.Proofs.Lays.n129 Y00 Zie:={
 mixed:=by kernel_rfl
 f129:=Tryz.func185.trans (congrArg some (by kernel_rfl))
 t3:=Y0x
 a3:=Y0y
 z3:=Y0z
 v3:=Y0A
 t4:=Y0J
 a4:=Tryz.isAgg4
 z4:=Tryz.sizeOf4
 v4:=Y0K
 t5:=Tryz.underlying5
 a5:=Tryz.isAgg5
 z5:=Tryz.sizeOf5
 v5:=Tryz.zeroValue5
 t9:=Tryz.underlying9
 a9:=Tryz.isAgg9
 z9:=Tryz.sizeOf9
 v9:=Tryz.zeroValue9
 t46:=Tryz.underlying146
 a46:=Tryz.isAgg146
 z46:=Tryz.sizeOf146
 v46:=Tryz.zeroValue146
 t53:=Tryz.underlying149
 a53:=Tryz.isAgg149
 z53:=Tryz.sizeOf149
 v53:=Tryz.zeroValue149 }
def Zid:Go.Shelf.Ren:=⟨fun|317=>217|n=>n,fun|3=>3|46=>146|n=>n,fun|n=>n⟩
theorem fblog:Go.Proofs.Lays.n317 Y00 Zid:={
 mixed:=by kernel_rfl
 f317:=Tryz.func217.trans (congrArg some (by kernel_rfl))
 t3:=Y0x
 a3:=Y0y
 z3:=Y0z
 v3:=Y0A
 t46:=Tryz.underlying146
 a46:=Tryz.isAgg146
 z46:=Tryz.sizeOf146
 v46:=Tryz.zeroValue146 }
def ZfW:Go.Shelf.Ren:=⟨fun|318=>218|n=>n,fun|3=>3|4=>4|n=>n,fun|n=>n⟩
theorem fbbool:Go.Proofs.Lays.n318 Y00 ZfW:={
 mixed:=by kernel_rfl
 f318:=Tryz.func218.trans (congrArg some (by kernel_rfl))
 t3:=Y0x
 a3:=Y0y
 z3:=Y0z
 v3:=Y0A
 t4:=Y0J
 a4:=Tryz.isAgg4
 z4:=Tryz.sizeOf4
 v4:=Y0K }
end Go.Proofs.YthbimonbnaodkaaGreatDoor.shelf
end
section
namespace Go.Proofs.YthbimonbnaodkaaGreatDoor.lex
open Go.Abs Go.RowKit Go.Sort
variable {gl:Z0o}
abbrev Zdd:UInt8->Value:=λb=>Value.int .u8 (b.toNat:Int)
theorem Zis(d:List UInt8)(i:Nat):(byt d)[i]? = (d[i]?).map λb=>AV.int .u8 b.toNat:=by simp[byt]
theorem Zpn (u : Nat) (hu : u < 18446744073709551616) (d0 : List UInt8) (hd : d0.length = 24) (hnd : Lib.nDigits u <= 23) (cap : Nat) (ty : TypeId) :
  Z10 Y00 gl 200 [.slice 0 1 (Lib.nDigits u) cap 1,.int .u64 u] [⟨true,0,0,.cells (byt d0) ty⟩] (.tuple []) [⟨true,0,0,.cells (byt (d0.take 1++(Lib.decDigits u++d0.drop (1+Lib.nDigits u)))) ty⟩]:=by
 intro sn ι W cargs hg hR ha
 simp only[LR]at ha
 obtain⟨v1,_,rfl,h1,v2,_,rfl,h2,rfl⟩:=ha
 obtain⟨p,a,cap',hp,rfl,c1,c2,c3⟩:=h1.slice
 cases h2.int
 have hob:=hR.obj 0 _ p rfl rfl hp
 simp only[OR]at hob
 obtain⟨arr,g1,g2,g3,g4⟩:=hob
 have hsh:=hR.shz 0 _ p rfl hp rfl
 have hpos:=Lib.nDigits_pos u
 have hlen:=Lib.decDigits_length u
 generalize hn:Lib.nDigits u=nd at *
 obtain⟨rfl,c4⟩:=c3 (by omega)
 rw[hsh]at g3 g4
 rw[hsh]
 rw[Z4g,hd]at g3
 have hcell:∀i (h:i<24),W.cell? ⟨p.blk,i,none⟩=some (Zdd d0[i]):=λi h=>by
  obtain⟨v,e1,e2⟩:=g4 i (.int .u8 d0[i].toNat) (by rw[Zis,Y05 (by omega)];rfl)
  cases e2.int
  simp only[World.cell?,g1]
  rw[Y0p]at e1;exact e1
 let d:Array UInt8:=((d0.drop 1).take nd).toArray
 have hds:d.size=nd:=by simp[d];omega
 have hdj:∀j,j<nd->∀(h:1+j<d0.length),d[j]! = d0[1+j]:=λj hj h=>by
  rw[getElem!_pos d j (by omega)]
  simp[d,Nat.add_comm 1 j]
 have hH:Holds Zdd W p.blk 1 d:=λj hj=>by
  rw[hds]at hj
  refine⟨?_,?_⟩
  ·rw[hcell (1+j) (by omega),hdj j hj (by omega)]
  ·simp[World.frozen?,g1]
 have hpow:u<10 ^ d.size:=by rw[hds,<- hn];exact Lib.lt_pow_nDigits u
 have hc:=Any.internal_strconv_formatBase10 shelf.fb10 p.blk 1 cap' u d W hH hpow hu (by rw[hds];omega)
 rw[hds]at hc
 refine hc.monoY ?_
 rintro e W' ⟨rfl,k,v',dk,rfl,hF⟩
 have hks:dk.size=nd:=hF.size
 have hdig:∀j (h:j<nd),Zdd dk[j]! = Zdd ((Lib.decDigits u)[j]'(by omega)):=λj h=>by
  have:=Lib.row_is_numeral (u:=u) (v':=v') (dk:=dk) (by rw[hn];exact hF) j (by omega)
  rw[this]
 have hother:∀c,c≠p.blk->((putRow Zdd W p.blk 1 dk).drewN k).heap[c]? = W.heap[c]?:=λc hc=>by
  show (putRow Zdd W p.blk 1 dk).heap[c]? = _
  simp only[putRow,mapBlock,Y0B]
  rw[if_neg (λe=>hc e.symm)]
 have hthis:((putRow Zdd W p.blk 1 dk).drewN k).heap[p.blk]? = some (.cells (putCells Zdd 1 dk arr) ty (0,0)):=by
  show (putRow Zdd W p.blk 1 dk).heap[p.blk]? = _
  simp only[putRow,mapBlock,Y0B,if_true,g1]
  rfl
 have hsize:((putRow Zdd W p.blk 1 dk).drewN k).heap.size=W.heap.size:=by
  show (putRow Zdd W p.blk 1 dk).heap.size=_
  simp
 have one0:∀{b:Nat}{o o':AObj},[o'][b]? = some o->b=0/\o=o':=λ{b o o'} h=>by
  cases b with
  |zero=>simp at h;exact⟨rfl,h.symm⟩
  |succ b=>simp at h
 refine⟨.tuple #[],sn,ι,rfl,by simp[VR,LR],⟨λb=>?_,λb q hq=>by rw[hsize];exact hR.blk b q hq,λb o q hb hal hq=>?_,λb b' o o' q q' hb hb' hal hal' hq hq' e=>?_,λad v hv=>?_,λb o q hb hq e=>?_⟩,Le.refl _ _,λ_ _ h=>.inl h,λc hc hno=>hother c (λe=>hno 0 _ p rfl rfl hp e.symm),by rw[hsize];exact Y06 _,rfl,rfl,rfl,λ_ _ h=>.inl h,λb o hb=>?_⟩
 ·exact hR.dom b
 · obtain⟨rfl,rfl⟩:=one0 hb
   rw[hp]at hq;cases hq
   simp only[OR]
   refine⟨_,hthis,by simp[putCells,g2],by rw[hsh,Z4g];simp only[Y02,Y0t,Y0i];omega,λi c hi=>?_⟩
   rw[hsh,Y0p]
   rw[Zis]at hi
   have hi24:i<24:=by
    have h1:i<(d0.take 1++(Lib.decDigits u++d0.drop (1+nd))).length:=by
     cases hx:(d0.take 1++(Lib.decDigits u++d0.drop (1+nd)))[i]? with
     |none=>rw[hx]at hi;cases hi
     |some b=>exact (Y0f.1 hx).1
    simp only[Y02,Y0t,Y0i]at h1
    omega
   have ha0:arr[i]? = some (Zdd d0[i]):=by
    have:=hcell i hi24
    simp[World.cell?,g1]at this
    exact this
   have hput:(putCells Zdd 1 dk arr)[i]? = some (if 1<=i/\i<1+nd then Zdd dk[i-1]! else Zdd d0[i]):=by
    simp only[putCells,Array.getElem?_mapIdx,ha0,Y0g,hks]
   rw[hput]
   refine⟨_,rfl,?_⟩
   by_cases h1:1<=i/\i<1+nd
   · rw[if_pos h1,hdig (i-1) (by omega)]
     have:(d0.take 1++(Lib.decDigits u++d0.drop (1+nd)))[i]? = some ((Lib.decDigits u)[i-1]'(by omega)):=by
      rw[Y0q (by simp;omega),Y0h (by simp;omega),Y0t]
      rw[show i-min 1 d0.length=i-1 by omega]
      exact Y05 (by omega)
     rw[this]at hi
     simp at hi;subst hi
     simp[VR]
   · rw[if_neg h1]
     have:(d0.take 1++(Lib.decDigits u++d0.drop (1+nd)))[i]? = some d0[i]:=by
      by_cases h0:i=0
      · subst h0
        rw[Y0h (by simp;omega),List.getElem?_take]
        simp
      · rw[Y0q (by simp;omega),Y0q (by simp;omega),Y0L,Y0t]
        rw[show 1+nd+(i-min 1 d0.length-(Lib.decDigits u).length)=i by omega]
        exact Y05 (by omega)
     rw[this]at hi
     simp at hi;subst hi
     simp[VR]
 · obtain⟨rfl,rfl⟩:=one0 hb
   obtain⟨rfl,rfl⟩:=one0 hb'
   rw[hq]at hq';cases hq'
   exact⟨rfl,rfl⟩
 · obtain⟨s1,s2,s3⟩:=hR.snap ad v hv
   refine⟨by rw[hsize];exact s1,?_,λb o q hb hal hq=>?_⟩
   · rw[<- s2]
     exact World.cell?_of_block (hother _ λe=>s3 0 _ p rfl rfl hp e.symm)
   · obtain⟨rfl,rfl⟩:=one0 hb
     exact s3 0 _ q rfl rfl hq
 · obtain⟨rfl,rfl⟩:=one0 hb
   exact hR.shz 0 _ q rfl hq rfl
 · obtain⟨rfl,rfl⟩:=one0 hb
   exact⟨_,rfl,rfl,rfl,λ_=>rfl⟩
end Go.Proofs.YthbimonbnaodkaaGreatDoor.lex
end
namespace Go.Proofs.YthbimonbnaodkaaGreatDoor.lex
open Go.Abs Go.RowKit
section
variable {gl:Z0o}
theorem Z28(op:Int):(op<1\/16<op)\/op=1\/op=2\/op=3\/op=4\/op=5\/op=6\/op=7\/op=8\/op=9\/op=10\/op=11\/op=12\/op=13\/op=14\/op=15\/op=16:=by omega
theorem Z8X(o:Int):(o<1\/6<o)\/o=1\/o=2\/o=3\/o=4\/o=5\/o=6:=by omega
theorem Zmu{op:Int}(h:op<1\/16<op):lev op=11:=by
 unfold lev;repeat rw[if_neg (by omega)]
theorem ZgQ{op:Int}(h:op<1\/16<op):Z5T op=[]:=by
 unfold Z5T;repeat rw[if_neg (by omega)]
theorem Zhh{o:Int}(h:o<1\/6<o):Zb5 o=[]:=by
 unfold Zb5;repeat rw[if_neg (by omega)]
theorem Zmv(op:Int):ValOK Y00 gl 171 [.int .i64 op] (.int .i64 (lev op)):=by
 rcases Z28 op with hout|rfl|rfl|rfl|rfl|rfl|rfl|rfl|rfl|rfl|rfl|rfl|rfl|rfl|rfl|rfl|rfl
 · rw[Zmu hout]
   refine Z05 follows Z07 Z06 Tryz.func171 rfl ?_
   repeat' ((conv=>whnf);first|refine stp ?_|with_reducible apply Z01<;>intro h)
   all_goals first|rfl|(exfalso;simp only[beq_iff_eq]at *;omega)
 all_goals
  refine Z05 follows Z07 Z06 Tryz.func171 rfl ?_
  repeat' ((conv=>whnf);first|refine stp ?_|with_reducible apply Z01<;>intro h)
  rfl
def ZhL(op:Int):Int:=if op<1\/16<op then 0 else lev op
theorem Z7J(op:Int):ValOK Y00 gl 137 [.int .i64 op] (.int .i64 (ZhL op)):=by
 rcases Z28 op with hout|rfl|rfl|rfl|rfl|rfl|rfl|rfl|rfl|rfl|rfl|rfl|rfl|rfl|rfl|rfl|rfl
 · unfold ZhL;rw[if_pos hout]
   refine Z05 follows Z07 Z06 Tryz.func137 rfl ?_
   repeat' ((conv=>whnf);first|refine stp ?_|with_reducible apply Z01<;>intro h)
   all_goals first|rfl|(exfalso;simp only[beq_iff_eq]at *;omega)
 all_goals
  refine Z05 follows Z07 Z06 Tryz.func137 rfl ?_
  repeat' ((conv=>whnf);first|refine stp ?_|with_reducible apply Z01<;>intro h)
  rfl
theorem ZlX(op:Int):ValOK Y00 gl 174 [.int .i64 op] (.str (Z5T op)):=by
 rcases Z28 op with hout|rfl|rfl|rfl|rfl|rfl|rfl|rfl|rfl|rfl|rfl|rfl|rfl|rfl|rfl|rfl|rfl
 · rw[ZgQ hout]
   refine Z05 follows Z07 Z06 Tryz.func174 rfl ?_
   repeat' ((conv=>whnf);first|refine stp ?_|with_reducible apply Z01<;>intro h)
   all_goals first|rfl|(exfalso;simp only[beq_iff_eq]at *;omega)
 all_goals
  refine Z05 follows Z07 Z06 Tryz.func174 rfl ?_
  repeat' ((conv=>whnf);first|refine stp ?_|with_reducible apply Z01<;>intro h)
  rfl
theorem ZgR(op:Int):ValOK Y00 gl 138 [.int .i64 op] (.str (Z5T op)):=by
 rcases Z28 op with hout|rfl|rfl|rfl|rfl|rfl|rfl|rfl|rfl|rfl|rfl|rfl|rfl|rfl|rfl|rfl|rfl
 · rw[ZgQ hout]
   by_cases h1:op<3
   · have e1:decide (op<3)=true:=by simpa using h1
     refine Z05 follows Z07 Z06 Tryz.func138 rfl ?_
     repeat' ((conv=>whnf);first|refine stp ?_|with_reducible apply Z01<;>intro h)
     all_goals rfl
   · have e1:decide (op<3)=false:=by simpa using h1
     have e2:decide (op>16)=true:=by simp only[gt_iff_lt,decide_eq_true_eq];omega
     refine Z05 follows Z07 Z06 Tryz.func138 rfl ?_
     repeat' ((conv=>whnf);first|refine stp ?_|with_reducible apply Z01<;>intro h)
     all_goals rfl
 all_goals
  refine Z05 follows Z07 Z06 Tryz.func138 rfl ?_
  repeat' ((conv=>whnf);first|refine stp ?_|with_reducible apply Z01<;>intro h)
  all_goals rfl
theorem Zm7(o:Int):ValOK Y00 gl 82 [.int .i64 o] (.str (Zb5 o)):=by
 rcases Z8X o with hout|rfl|rfl|rfl|rfl|rfl|rfl
 · rw[Zhh hout]
   refine Z05 follows Z07 Z06 Tryz.func82 rfl ?_
   repeat' ((conv=>whnf);first|refine stp ?_|with_reducible apply Z01<;>intro h)
   all_goals first|rfl|(exfalso;simp only[beq_iff_eq]at *;omega)
 all_goals
  refine Z05 follows Z07 Z06 Tryz.func82 rfl ?_
  repeat' ((conv=>whnf);first|refine stp ?_|with_reducible apply Z01<;>intro h)
  rfl
theorem Zm8(o:Int):ValOK Y00 gl 90 [.int .i64 o] (.str (Zb5 o)):=by
 rcases Z8X o with hout|rfl|rfl|rfl|rfl|rfl|rfl
 · rw[Zhh hout]
   by_cases h1:o<1
   · have e1:decide (o<1)=true:=by simpa using h1
     refine Z05 follows Z07 Z06 Tryz.func90 rfl ?_
     repeat' ((conv=>whnf);first|refine stp ?_|with_reducible apply Z01<;>intro h)
     all_goals rfl
   · have e1:decide (o<1)=false:=by simpa using h1
     have e2:decide (o>6)=true:=by simp only[gt_iff_lt,decide_eq_true_eq];omega
     refine Z05 follows Z07 Z06 Tryz.func90 rfl ?_
     repeat' ((conv=>whnf);first|refine stp ?_|with_reducible apply Z01<;>intro h)
     all_goals rfl
 all_goals
  refine Z05 follows Z07 Z06 Tryz.func90 rfl ?_
  repeat' ((conv=>whnf);first|refine stp ?_|with_reducible apply Z01<;>intro h)
  all_goals rfl
theorem Z4V{n:Nat}(h:n<10):Z3V n=[UInt8.ofNat (48+n)]:=by rw[Z3V,if_pos h]
theorem Zf3{n:Nat}(h:¬n<10):Z3V n=Z3V (n / 10)++[UInt8.ofNat (48+n % 10)]:=by rw[Z3V,if_neg h]
end
end Go.Proofs.YthbimonbnaodkaaGreatDoor.lex
section
namespace Go.Proofs.YthbimonbnaodkaaGreatDoor.lex
open Go.Abs Go.RowKit Go.Sort
def ZoH(n:Nat):List UInt8:=if n<10 then [UInt8.ofNat (48+n)] else [UInt8.ofNat (48+n / 10),UInt8.ofNat (48+n % 10)]
theorem ZmZ(n:Nat)(h:n<100):ZoH n=Z3V n:=by
 unfold ZoH
 by_cases h1:n<10
 ·rw[if_pos h1,Z4V h1]
 ·rw[if_neg h1,Zf3 h1,Z4V (by omega)];rfl
theorem ZoV{gl:Z0o}(n:Nat)(hn:n<100):ValOK Y00 gl 198 [.int .i64 n] (.str (ZoH n)):=by
 refine Z05 follows Z07 Z06 Tryz.func198 rfl ?_
 by_cases h:n<10
 · have e1:decide ((n:Int)<10)=true:=by simp;omega
   repeat' ((conv=>whnf);first|refine stp ?_|with_reducible apply Z01<;>intro h)
   refine congrArg AV.str ?_
   clear e1 hn
   revert n
   decide +kernel
 · have e1:decide ((n:Int)<10)=false:=by simp;omega
   repeat' ((conv=>whnf);first|refine stp ?_|with_reducible apply Z01<;>intro h)
   refine congrArg AV.str ?_
   clear e1
   revert h;revert hn;revert n
   decide +kernel
theorem Zl0{gl:Z0o}(n:Nat)(hn:n<100):∃O:Orc,OrcSound Y00 gl O/\(∀H,Z02 Y00 O H 198 [.int .i64 n]=some (.str (Z3V n),H)):=by
 obtain⟨O,hO,q1,-⟩:=fams (P:=Y00) (gl:=gl) [{ I:=Unit,f:=198,G:=(λ_=>True),A:=(λ_=>[.int .i64 n]),R:=(λ_=>.str (ZoH n)),body:=(by kernel_rfl),inj:=(λ_ _ _ _ _=>rfl),ok:=(λ_ _=>⟨rfl,ZoV n hn⟩) }] rfl
 exact⟨O,hO,λH=>by rw[<- ZmZ n hn];exact q1 () trivial H⟩
end Go.Proofs.YthbimonbnaodkaaGreatDoor.lex
end
section
namespace Go.Proofs.YthbimonbnaodkaaGreatDoor.lex
open Go.Abs Go.RowKit Go.Sort
theorem Zab(W:World):Ext W W:=⟨λ_ _=>rfl,Y06 _,rfl,rfl,rfl⟩
theorem ZmY:∀n:Nat,Z3V n=Lib.decDigits n:=by
 intro n
 induction n using Nat.strongRecOn with
 |_ n ih =>
  rw[Z3V,Lib.decDigits]
  by_cases h:n<10
  ·rw[if_pos h,dif_pos h]
  ·rw[if_neg h,dif_neg h,ih (n / 10) (by omega)]
section
variable {gl:Z0o}
theorem Zkc(u:Nat)(h:u<18446744073709551616):ValOK Y00 gl 185 [.int .u64 u] (.int .i64 (Lib.bitLen u)):=by
 intro sn W cargs hg hR ha
 simp only[LR]at ha
 obtain⟨v1,_,rfl,h1,rfl⟩:=ha
 cases h1.int
 refine (Any.bits_Len64 shelf.fblen u W (by omega) (by omega)).mono ?_
 rintro e W' ⟨rfl,rfl⟩
 exact⟨_,rfl,Zab _,by simp[VR]⟩
theorem Zk3(x:Nat)(h:x<=64):ValOK Y00 gl 217 [.int .i64 x] (.int .i64 (Lib.l10 x)):=by
 intro sn W cargs hg hR ha
 simp only[LR]at ha
 obtain⟨v1,_,rfl,h1,rfl⟩:=ha
 cases h1.int
 refine (Any.internal_strconv_log10Pow2 shelf.fblog x h W).mono ?_
 rintro e W' ⟨rfl,rfl⟩
 exact⟨_,rfl,Zab _,by simp[VR]⟩
theorem ZkL(b:Bool):ValOK Y00 gl 218 [.bool b] (.int .i64 (if b then 1 else 0)):=by
 intro sn W cargs hg hR ha
 simp only[LR]at ha
 obtain⟨v1,_,rfl,h1,rfl⟩:=ha
 cases h1.bool
 refine (Any.internal_strconv_bool2_int shelf.fbbool b W).mono ?_
 rintro e W' ⟨rfl,rfl⟩
 exact⟨_,rfl,Zab _,by simp[VR]⟩
end
theorem Zix(u:Nat)(h:u<18446744073709551616):Lib.bitLen u<=64:=Lib.bitLen_le u 64 (Y06 _) h
def Zl7:List AV:=(List.range 20).map λi=>AV.int .u64 ((10 ^ i:Nat):Int)
theorem p10:runLives.tbl2=Zl7:=by kernel_rfl
theorem ZnM(j:Nat)(h:j<20):tk 1 (runLives.tbl2.drop (j*1))=some [.int .u64 ((10 ^ j:Nat):Int)]:=by
 have:=Z1Q (λi:Nat=>AV.int .u64 ((10 ^ i:Nat):Int)) (List.range 20) j (by simpa using h) (off:=j*1) (by omega)
 rw[p10];simpa[Zl7]using this
theorem Zp6(u:Nat)(h1:1<=u)(h2:u<18446744073709551616):ValOK Y00 runLives.gl 199 [.int .u64 u] (.int .i64 (Lib.nDigits u)):=by
 obtain⟨O,hO,q1,q2,q3,-⟩:=fams (P:=Y00) (gl:=runLives.gl) [
  { I:=Nat,f:=185,G:=(λu=>u<18446744073709551616),A:=(λu=>[.int .u64 u]),R:=(λu=>.int .i64 (Lib.bitLen u)),body:=(by kernel_rfl),inj:=(λi j _ _ h=>by simp only[List.cons.injEq,AV.int.injEq,true_and,and_true]at h;rw[Int.ofNat_inj.1 h]),ok:=(λu h=>⟨rfl,Zkc u h⟩) },
  { I:=Nat,f:=217,G:=(λu=>u<=64),A:=(λu=>[.int .i64 u]),R:=(λu=>.int .i64 (Lib.l10 u)),body:=(by kernel_rfl),inj:=(λi j _ _ h=>by simp only[List.cons.injEq,AV.int.injEq,true_and,and_true]at h;rw[Int.ofNat_inj.1 h]),ok:=(λu h=>⟨rfl,Zk3 u h⟩) },
  { I:=Bool,f:=218,G:=(λ_=>True),A:=(λb=>[.bool b]),R:=(λb=>.int .i64 (if b then 1 else 0)),body:=(by kernel_rfl),inj:=(λi j _ _ h=>by simp only[List.cons.injEq,AV.bool.injEq,and_true]at h;rw[h]),ok:=(λb _=>⟨rfl,ZkL b⟩) }] rfl
 have r1:∀H,Z02 Y00 O H 185 [.int .u64 u]=some (.int .i64 (Lib.bitLen u),H):=q1 u h2
 have r2:∀H,Z02 Y00 O H 217 [.int .i64 (Lib.bitLen u)]=some (.int .i64 (Lib.l10 (Lib.bitLen u)),H):=q2 _ (Zix u h2)
 have r3:∀b H,Z02 Y00 O H 218 [.bool b]=some (.int .i64 (if b then 1 else 0),H):=λb=>q3 b trivial
 clear q1 q2 q3
 obtain⟨e1,e2⟩:=Lib.numDigits_eq u h1 h2
 generalize Lib.nDigits u=nd at *
 generalize Lib.l10 (Lib.bitLen u)=l at *
 generalize Lib.bitLen u=bl at *
 have hp:=ZnM l (by omega)
 have hd:decide ((u:Int) >= ((10 ^ l:Nat):Int))=decide (10 ^ l<=u):=by
  have:((u:Int) >= ((10 ^ l:Nat):Int)) ↔ 10 ^ l<=u:=by omega
  simp only[this]
 have hw:IntKind.i64.wrap ((l:Int)+(if decide (10 ^ l<=u) then 1 else 0))=(nd:Int):=by
  have:((l:Int)+(if decide (10 ^ l<=u)=true then 1 else 0))=(nd:Int):=by
   rw[<- e1];by_cases h:10 ^ l<=u<;>simp[h]
  rw[this];exact Z2r (by omega) (by split at e1<;>omega)
 refine Z05 follows Z07 hO Tryz.func199 rfl ?_
 repeat' ((conv=>whnf);first|with_reducible refine exI (r1 _) ?_|with_reducible refine exI (r2 _) ?_|(rw[hd];with_reducible refine exI (r3 _ _) ?_)|refine exI hp ?_|(with_reducible refine ixJ l rfl ?_ ?_;focus omega)|(with_reducible refine exW hw ?_)|refine stp ?_|with_reducible apply Z01<;>intro h)
 all_goals rfl
theorem Zku{gl:Z0o}(n:Nat)(hn:n<100):ValOK Y00 gl 173 [.int .i64 n,.int .i64 10] (.str (Z3V n)):=by
 obtain⟨O,hO,r1⟩:=Zl0 (gl:=gl) n hn
 have e1:decide ((0:Int)<=(n:Int))=true:=by simp
 have e2:decide ((n:Int)<100)=true:=by simp;omega
 refine Z32 (λg=>Nat.beq g 198) 2 follows Z07 hO Tryz.func173 rfl ?_
 repeat' ((conv=>whnf);first|with_reducible refine exI (r1 _) ?_|refine stp ?_|with_reducible apply Z01<;>intro h)
 all_goals rfl
theorem ZnG:Z6K Y00 106 9=true:=by kernel_rfl
theorem Zl2 {P : Program} {orc : Orc} {ρ : Operand -> Option AV} {o : Oper} {H : Z00} {t e : TypeId} {x lo hi : Operand} {b off f sh n z : Nat} {cs : List AV} {ty : TypeId} (l h off' len' cap' : Nat) (ho : o.op = .slice t x (some lo) (some hi) none) (hx : ρ x = some (.ptr b off)) (hlo : ρ lo = some (.int .i64 (l : Int))) (hhi : ρ hi = some (.int .i64 (h : Int)))
  (ht:P.underlying t=some (.array n e)/\tsz P e=some z) (hH:H[b]? = some ⟨true,f,sh,.cells cs ty⟩) (hc:Nat.ble (off+n*z) cs.length=true) (h1:l<=h) (h2:h<=n) (e1:off+l*z=off') (e2:h-l=len') (e3:n-l=cap'):aop P orc ρ o H=some (.slice b off' len' cap' z,H):=by
 subst e1;subst e2;subst e3
 have c1:bnd (some (.int .i64 (h:Int))) n n=some h:=by simp only[bnd];rw[if_pos (by omega),Y0M]
 have c2:bnd (some (.int .i64 (l:Int))) 0 h=some l:=by simp only[bnd];rw[if_pos (by omega),Y0M]
 simp only[aop,Z0s,Z2G,Z9l,ho,hx,hlo,hhi,ZiD,Z9n,Zaq,ht.1,ht.2,hH,hc,c1,c2,if_true]
theorem ZpG:Y00.underlying 238=some (.array 24 5)/\tsz Y00 5=some 1:=⟨by kernel_rfl,by kernel_rfl⟩
theorem ZnT(u:Nat)(h1:1<=u)(h2:u<18446744073709551616):Lib.nDigits u<=20:=by
 obtain⟨e1,e2⟩:=Lib.numDigits_eq u h1 h2
 split at e1<;>omega
theorem Zll(u:Nat)(h1:100<=u)(h2:u<=9223372036854775807):ValOK Y00 runLives.gl 166 [.int .i64 u,.int .i64 10] (.str (Z3V u)):=by
 obtain⟨O,hO,⟨q2,-⟩,⟨q1,-⟩⟩:=Z5E (P:=Y00) (gl:=runLives.gl) [
  { I := Unit, f := 200, G := (fun _ => True), A := (fun _ => [.slice 0 1 (Lib.nDigits u) 23 1, .int .u64 u]), H := (fun _ => [⟨true, 0, 0, .cells (byt (List.replicate 24 0)) 238⟩]), R := (fun _ => .tuple []), O := (fun _ => [⟨true, 0, 0, .cells (byt ((List.replicate 24 0).take 1 ++ (Lib.decDigits u ++ (List.replicate 24 0).drop (1 + Lib.nDigits u)))) 238⟩]), body := (by kernel_rfl), inj := (fun _ _ _ _ _ _ => ⟨rfl, rfl⟩),
    ok:=(λ_ _=>Zpn u (by omega) (List.replicate 24 0) (by simp) (by have:=ZnT u (by omega) (by omega);omega) 23 _) }] [
  { I:=Unit,f:=199,G:=(λ_=>True),A:=(λ_=>[.int .u64 u]),R:=(λ_=>.int .i64 (Lib.nDigits u)),body:=(by kernel_rfl),inj:=(λ_ _ _ _ _=>rfl),ok:=(λ_ _=>⟨rfl,Zp6 u (by omega) (by omega)⟩) }] rfl
 have r1:∀H,Z02 Y00 O H 199 [.int .u64 u]=some (.int .i64 (Lib.nDigits u),H):=q1 () trivial
 have r2:=q2 () trivial
 dsimp only at r2
 clear q1 q2
 have hlen:=Lib.decDigits_length u
 rw[ZmY]
 have hnd:Lib.nDigits u<=20:=ZnT u (by omega) (by omega)
 generalize Lib.decDigits u=D at *
 generalize Lib.nDigits u=nd at *
 have hlenB:(byt ((List.replicate 24 (0:UInt8)).take 1++(D++(List.replicate 24 0).drop (1+nd)))).length=24:=by rw[Z4g];simp only[Y02,Y0t,Y0i,List.length_replicate];omega
 have hble:Nat.ble (0+24*1) (byt ((List.replicate 24 (0:UInt8)).take 1++(D++(List.replicate 24 0).drop (1+nd)))).length=true:=by rw[hlenB];rfl
 have hcv:tk nd ((byt ((List.replicate 24 (0:UInt8)).take 1++(D++(List.replicate 24 0).drop (1+nd)))).drop 1)=some (byt D):=by
  have h:(byt ((List.replicate 24 (0:UInt8)).take 1++(D++(List.replicate 24 0).drop (1+nd)))).drop 1=byt D++byt ((List.replicate 24 (0:UInt8)).drop (1+nd)):=by rw[<- Z8a];rfl
  rw[h,<- hlen,<- Z4g D];exact Z8I _ _
 have e1:decide ((0:Int)<=(u:Int))=true:=by simp
 have e2:decide ((u:Int)<100)=false:=by simp;omega
 have e3:decide ((u:Int)<0)=false:=by simp
 have w1:IntKind.u64.wrap (u:Int)=(u:Int):=by simp[IntKind.wrap,IntKind.bits,IntKind.signed];omega
 have w2:IntKind.i64.wrap (1+(nd:Int))=((1+nd:Nat):Int):=by
  have:1+(nd:Int)=((1+nd:Nat):Int):=by omega
  rw[this];exact Z2r (by omega) (by omega)
 refine Z05 follows Z07 hO Tryz.func166 rfl ?_
 repeat' ((conv=>whnf);first|(rw[w1];with_reducible refine exI (r1 _) ?_)|refine exI r2 ?_|refine exI (Zl2 1 (1+nd) 1 nd 23 rfl rfl rfl rfl ZpG rfl rfl (by omega) (by omega) rfl (by omega) rfl) ?_|refine exI (Zl2 1 (1+nd) 1 nd 23 rfl rfl rfl rfl ZpG rfl hble (by omega) (by omega) rfl (by omega) rfl) ?_|refine exI (Zdh D rfl rfl ZnG rfl hcv) ?_|(with_reducible refine exW w1 ?_)|(with_reducible refine exW w2 ?_)|refine stp ?_|with_reducible apply Z01<;>intro h)
 all_goals rfl
theorem Zo8(n:Int)(h0:0<=n)(h1:rgI n):ValOK Y00 runLives.gl 173 [.int .i64 n,.int .i64 10] (.str (Z1W n)):=by
 obtain⟨u,rfl⟩:∃u:Nat,n=u:=⟨n.toNat,by omega⟩
 have h2:u<=9223372036854775807:=by have:=h1.2;omega
 show ValOK Y00 runLives.gl 173 [.int .i64 u,.int .i64 10] (.str (Z3V (u:Int).toNat))
 rw[Y0M]
 by_cases hs:u<100
 ·exact Zku u hs
 · obtain⟨O,hO,q1,-⟩:=fams (P:=Y00) (gl:=runLives.gl) [{ I:=Unit,f:=166,G:=(λ_=>True),A:=(λ_=>[.int .i64 u,.int .i64 10]),R:=(λ_=>.str (Z3V u)),body:=(by kernel_rfl),inj:=(λ_ _ _ _ _=>rfl),ok:=(λ_ _=>⟨rfl,Zll u (by omega) h2⟩) }] rfl
   have r1:∀H,Z02 Y00 O H 166 [.int .i64 u,.int .i64 10]=some (.str (Z3V u),H):=q1 () trivial
   clear q1
   refine Z05 follows Z07 hO Tryz.func173 rfl ?_
   repeat' ((conv=>whnf);first|with_reducible refine exI (r1 _) ?_|refine stp ?_|with_reducible apply Z01<;>intro h)
   all_goals rfl
end Go.Proofs.YthbimonbnaodkaaGreatDoor.lex
end
namespace Go.Proofs.YthbimonbnaodkaaGreatDoor.lex
open Go.Abs Go.RowKit
section
abbrev rgl:Z0o:=runLives.gl
theorem Z9A:∀{a b:List (List UInt8)},a.map AV.str=b.map AV.str->a=b
 |[],[],_=>rfl
 |[],_::_,h=>by simp at h
 |_::_,[],h=>by simp at h
 |x::a,y::b,h=>by
  simp only[List.map_cons,List.cons.injEq,AV.str.injEq]at h
  rw[h.1,Z9A h.2]
def wmPut:WM Y00 rgl tW tB where
 f:=172
 X:=List (List UInt8)×Int
 G:=λx=>x.1.length<=100
 G0:=λx=>∃a t,x.1=a::t/\a≠[]
 A:=λx=>[.rs x.1.length 1 (x.1.map AV.str)]
 D:=λx=>x.2
 T:=λx=>x.1.flatten
 L:=1073741824
 body:=by kernel_rfl
 inj:=by
  rintro x y _ _ h _
  simp only[List.cons.injEq,AV.rs.injEq,and_true,true_and]at h
  rw[Z9A h.2]
 ne:=by
  rintro x _ ⟨a,t,e,ha⟩
  rw[e];simp[ha]
 ok:=λx g s h0 hb=>ZnL x.1 s x.2 g h0 hb
theorem Zl6 {O : Orc} (h : wmPut.fam.Ask O) (l : List (List UInt8)) (t : List UInt8) (ht : l.flatten = t) (hl : Nat.ble l.length 100 = true) {s : List UInt8} {b c fb fc : Nat} {H : Z00} {rest : List AV} {d : Int} (hs : s ≠ []) (hb : (s ++ t).length <= 1073741824) (e2 : H[b]? = some ⟨true, fb, 0, .cells [.ptr b 0, .slice c 0 s.length s.length 1, .int .i64 d] tW⟩)
  (e1:H[c]? = some ⟨true,fc,0,.cells (byt s) tB⟩) (e3:Nat.beq fb fc=false) (e4:Z29 [b,c] [fb,fc] 0 H=true) (e5:Z0T (Z4A [b,c] (Z5U [b,c] H) 30) rest=some [.rs l.length 1 (l.map AV.str)]) :
  Z02 Y00 O H 172 (.ptr b 0::rest)=some (.tuple [],ZjL tW tB H b c fb fc (s++t) d):=by
 subst ht;exact WM.ask1 (W:=wmPut) h (l,d) (Nat.le_of_ble_eq_true hl) hs hb e1 e2 e3 e4 e5
theorem ZoC {O : Orc} (h : wmPut.fam.Ask O) (a : List UInt8) (l : List (List UInt8)) (t : List UInt8) (ht : (a :: l).flatten = t) (hl : Nat.ble (a :: l).length 100 = true) (ha : a ≠ []) {b fb : Nat} {H : Z00} {rest : List AV} {d : Int} (hb : t.length <= 1073741824) (e1 : H[b]? = some ⟨true, fb, 0, .cells [.nptr, .nslice, .int .i64 d] tW⟩)
  (e2:Z29 [b] [fb] 0 H=true) (e3:Z69 H.length H=true) (e4:Z0T (Z4A [b] (Z5U [b] H) 30) rest=some [.rs (a::l).length 1 ((a::l).map AV.str)]) :
  Z02 Y00 O H 172 (.ptr b 0::rest)=some (.tuple [],ZjM tW tB H b fb t d):=by
 subst ht;exact WM.ask0 (W:=wmPut) h (a::l,d) (Nat.le_of_ble_eq_true hl) ⟨a,l,rfl,ha⟩ hb e1 e2 e3 e4
end
section
theorem Z3z {e : Ex} (h : Z0j e = true) : (∃ n, e = .mk 1 n [] [] /\ 0 <= n) \/ (∃ s, e = .mk 2 0 s [] /\ Z3u s = true) \/ (∃ op a, (op = 3 \/ op = 4) /\ e = .mk op 0 [] [a] /\ Z0j a = true) \/
  (∃op a b,(5<=op/\op<=16)/\e = .mk op 0 [] [a,b]/\Z0j a=true/\Z0j b=true):=by
 obtain⟨op,num,name,kids⟩:=e
 simp only[Z0j,ZaA,Y0d,beq_iff_eq,Y0F,decide_eq_true_eq]at h
 obtain⟨⟨h1,h2,h3,h4,h5⟩,h6⟩:=h
 unfold Z4N at h1
 split at h1
 · rename_i hop
   have hk:kids=[]:=Y0s (by omega)
   subst hk
   rcases hop with rfl|rfl
   · have hn:name=[]:=by rcases h3 with h|h;exact absurd h (by decide);exact h
     subst hn
     exact .inl ⟨num,rfl,h4⟩
   · have hm:num=0:=by rcases h5 with h|h;exact absurd h (by decide);exact h
     subst hm
     exact .inr (.inl ⟨name,rfl,by simpa using h2.symm⟩)
 · rename_i ho1
   have hn:name=[]:=by rcases h3 with h|h;omega;exact h
   have hm:num=0:=by rcases h5 with h|h;omega;exact h
   subst hn;subst hm
   split at h1
   · rename_i hop
     match kids,h1,h6 with
     |[a],_,h6 =>
      simp only[rightL,Bool.and_true]at h6
      exact .inr (.inr (.inl ⟨op,a,hop,rfl,h6⟩))
     |[],h1,_=>simp at h1
     |_::_::_,h1,_=>simp only[Y0b]at h1;omega
   · split at h1
     · rename_i hop
       match kids,h1,h6 with
       |[a,b],_,h6 =>
        simp only[rightL,Bool.and_true,Y0d]at h6
        exact .inr (.inr (.inr ⟨op,a,b,hop,rfl,h6.1,h6.2⟩))
       |[],h1,_=>simp at h1
       |[_],h1,_=>simp at h1
       |_::_::_::_,h1,_=>simp only[Y0b]at h1;omega
     ·omega
theorem ZdJ{s:List UInt8}(h:Z3u s=true):s≠[]:=by rintro rfl;cases h
theorem Zl3{op:Int}(h:op=3\/op=4):Z5T op≠[]:=by rcases h with rfl|rfl<;>decide
theorem ZdI{e:Ex}(h:Z0j e=true):wrE e≠[]:=by
 rcases Z3z h with ⟨n,rfl,_⟩|⟨s,rfl,hs⟩|⟨op,a,hop,rfl,_⟩|⟨op,a,b,hop,rfl,_⟩
 ·simp only[wrE,wrL,wrC];exact Zdf _
 ·simp only[wrE,wrL,wrC];exact ZdJ hs
 · simp only[wrE,wrL,wrC]
   rw[if_neg (by omega),if_neg (by omega)]
   simp[Zl3 hop]
 · simp only[wrE,wrL,wrC]
   rw[if_neg (by omega),if_neg (by omega)]
   simp
theorem Zlo{p:Int×List UInt8}{n:Int}(h:p.2≠[]):brk p n≠[]:=by
 unfold brk;split
 ·simp
 ·exact h
def Z2X(e:Ex)(least:Int):Prop:=∀(s:List UInt8)(d:Int),(s++brk (e.op,wrE e) least).length<=1073741824->Zcn Y00 rgl 1 136 [.ptr 0 0,.agg e.cells,.int .i64 least] (WH tW tB s d) (.tuple []) (WH tW tB (s++brk (e.op,wrE e) least) d)
def Z6o(K:Ex->Int->Prop)(hne:∀e l,K e l->Z0j e=true)(hok:∀e l,K e l->Z2X e l):WM Y00 rgl tW tB where
 f:=136
 X:=Ex×Int×Int
 G:=λx=>K x.1 x.2.1
 G0:=λ_=>True
 A:=λx=>[.agg x.1.cells,.int .i64 x.2.1]
 D:=λx=>x.2.2
 T:=λx=>brk (x.1.op,wrE x.1) x.2.1
 L:=1073741824
 body:=by kernel_rfl
 inj:=by
  rintro x y _ _ h _
  simp only[List.cons.injEq,AV.int.injEq,and_true,true_and]at h
  have:=Z3I (a:=x.1) (b:=y.1) (by rw[h.1])
  rw[this,h.2]
 ne:=λx g _=>Zlo (ZdI (hne _ _ g))
 ok:=λx g s _ hb=>hok x.1 x.2.1 g s x.2.2 hb
theorem Zig{K:Ex->Int->Prop}{hne:∀e l,K e l->Z0j e=true}{hok:∀e l,K e l->Z2X e l}{O:Orc}(h:(Z6o K hne hok).fam.Ask O)(e:Ex)(l:Int)(g:K e l){s:List UInt8}{b c fb fc:Nat}{H:Z00}{rest:List AV}{d:Int}(hs:s≠[])(hb:(s++brk (e.op,wrE e) l).length<=1073741824)
 (e2:H[b]? = some ⟨true,fb,0,.cells [.ptr b 0,.slice c 0 s.length s.length 1,.int .i64 d] tW⟩) (e1:H[c]? = some ⟨true,fc,0,.cells (byt s) tB⟩) (e3:Nat.beq fb fc=false) (e4:Z29 [b,c] [fb,fc] 0 H=true) (e5:Z0T (Z4A [b,c] (Z5U [b,c] H) 30) rest=some [.agg e.cells,.int .i64 l]) :
 Z02 Y00 O H 136 (.ptr b 0::rest)=some (.tuple [],ZjL tW tB H b c fb fc (s++brk (e.op,wrE e) l) d):=WM.ask1 (W:=Z6o K hne hok) h (e,l,d) g hs hb e1 e2 e3 e4 e5
theorem Zoc{K:Ex->Int->Prop}{hne:∀e l,K e l->Z0j e=true}{hok:∀e l,K e l->Z2X e l}{O:Orc}(h:(Z6o K hne hok).fam.Ask O)(e:Ex)(l:Int)(g:K e l){b fb:Nat}{H:Z00}{rest:List AV}{d:Int}(hb:(brk (e.op,wrE e) l).length<=1073741824)
 (e1:H[b]? = some ⟨true,fb,0,.cells [.nptr,.nslice,.int .i64 d] tW⟩) (e2:Z29 [b] [fb] 0 H=true) (e3:Z69 H.length H=true) (e4:Z0T (Z4A [b] (Z5U [b] H) 30) rest=some [.agg e.cells,.int .i64 l]) :
 Z02 Y00 O H 136 (.ptr b 0::rest)=some (.tuple [],ZjM tW tB H b fb (brk (e.op,wrE e) l) d):=WM.ask0 (W:=Z6o K hne hok) h (e,l,d) g trivial hb e1 e2 e3 e4
def ZbF:Fam Y00 rgl:={ I:=Int,f:=171,G:=(λ_=>True),A:=(λn=>[.int .i64 n]),R:=(λn=>.int .i64 (lev n)),body:=(by kernel_rfl),inj:=(λi j _ _ h=>by simp only[List.cons.injEq,AV.int.injEq,true_and,and_true]at h;rw[h]),ok:=(λn _=>⟨rfl,Zmv n⟩) }
def Zlm:Fam Y00 rgl:={ I:=Int,f:=174,G:=(λ_=>True),A:=(λn=>[.int .i64 n]),R:=(λn=>.str (Z5T n)),body:=(by kernel_rfl),inj:=(λi j _ _ h=>by simp only[List.cons.injEq,AV.int.injEq,true_and,and_true]at h;rw[h]),ok:=(λn _=>⟨rfl,ZlX n⟩) }
def Zoa:Fam Y00 rgl:={ I:=Int,f:=82,G:=(λ_=>True),A:=(λn=>[.int .i64 n]),R:=(λn=>.str (Zb5 n)),body:=(by kernel_rfl),inj:=(λi j _ _ h=>by simp only[List.cons.injEq,AV.int.injEq,true_and,and_true]at h;rw[h]),ok:=(λn _=>⟨rfl,Zm7 n⟩) }
def Zob:Fam Y00 rgl:={ I:=Int,f:=173,G:=(λn=>0<=n/\rgI n),A:=(λn=>[.int .i64 n,.int .i64 10]),R:=(λn=>.str (Z1W n)),body:=(by kernel_rfl),inj:=(λi j _ _ h=>by simp only[List.cons.injEq,AV.int.injEq,true_and,and_true]at h;rw[h]),ok:=(λn h=>⟨rfl,Zo8 n h.1 h.2⟩) }
theorem Zkz{e:Ex}{least:Int}(hr:Z0j e=true)(hlt:lev e.op<least)(h0:Z2X e 0)(hl0:¬lev e.op<0):Z2X e least:=by
 intro s d hb
 have hne:=ZdI hr
 obtain⟨O,hO,⟨p1,p2,-⟩,⟨p3,-⟩⟩:=Z5E (P:=Y00) (gl:=rgl) [wmPut.fam,(Z6o (λe' l=>e'=e/\l=0) (λe' l h=>by rw[h.1];exact hr) (λe' l h=>by rw[h.1,h.2];exact h0)).fam] [ZbF] rfl
 have q3:∀H,Z02 Y00 O H 171 [.int .i64 e.op]=some (.int .i64 (lev e.op),H):=p3 e.op trivial
 have ht:brk (e.op,wrE e) least=40::(wrE e++[41]):=if_pos hlt
 have ht0:brk (e.op,wrE e) 0=wrE e:=if_neg hl0
 rw[ht]at hb⊢
 have q1:=λ{s:List UInt8} {b c fb fc:Nat} {H:Z00} {rest:List AV} {d:Int} hs hb e2 e1 e3 e4 e5=>Zig p2 e 0 ⟨rfl,rfl⟩ (s:=s) (b:=b) (c:=c) (fb:=fb) (fc:=fc) (H:=H) (rest:=rest) (d:=d) hs hb e2 e1 e3 e4 e5
 rw[ht0]at q1
 obtain⟨lv,hlv⟩:∃lv,lev e.op=lv:=⟨_,rfl⟩
 rw[hlv]at q3 hlt
 have e1:decide (lv<least)=true:=by simpa using hlt
 clear ht ht0 h0 p2 p3 hl0 hlt hlv hr
 simp only[Y02,Y0b,Y0G]at hb
 generalize wrE e=w at *
 obtain⟨op,num,name,kids⟩:=e
 simp only[Ex.op,Ex.cells]at *
 generalize hN:WH tW tB (s++40::(w++[41])) d=N
 refine Z5C follows Z07 hO Y0u rfl ?_
 cases s with
 |nil =>
  simp only[WH]
  repeat' ((conv=>whnf);first|with_reducible refine exI (q3 _) ?_|(refine Znr (ZoC p1  [40] [] [40]  rfl rfl (Y0o _ _) ?_ rfl rfl rfl rfl) ?_;(exact leS))|(refine Zd9 (Zl6 p1  [[41]] [41]  rfl rfl ?_ ?_ rfl rfl rfl rfl rfl) ?_;(exact neS);(exact leS))|(refine Zd9 (q1 ?_ ?_ rfl rfl rfl rfl rfl) ?_;(exact neS);(exact leS))|refine stp ?_|with_reducible apply Z01<;>intro h)
  conv=>whnf
  (apply Zj0 hN;rotate_left;rotate_left;(focus (exact rfl));(focus (exact rfl));(focus (exact rfl));(focus (exact rfl));(focus (simp;done));(exact neS))
 |cons c t =>
  simp only[WH]
  repeat' ((conv=>whnf);first|with_reducible refine exI (q3 _) ?_|(refine Zd9 (Zl6 p1  [[40]] [40]  rfl rfl ?_ ?_ rfl rfl rfl rfl rfl) ?_;(exact neS);(exact leS))|(refine Zd9 (Zl6 p1  [[41]] [41]  rfl rfl ?_ ?_ rfl rfl rfl rfl rfl) ?_;(exact neS);(exact leS))|(refine Zd9 (q1 ?_ ?_ rfl rfl rfl rfl rfl) ?_;(exact neS);(exact leS))|refine stp ?_|with_reducible apply Z01<;>intro h)
  conv=>whnf
  (apply Zj0 hN;rotate_left;rotate_left;(focus (exact rfl));(focus (exact rfl));(focus (exact rfl));(focus (exact rfl));(focus (simp;done));(exact neS))
theorem ZcW{op:Int}(h:1<=op/\op<=16):1<=lev op/\lev op<=11:=by
 rcases Z28 op with hout|rfl|rfl|rfl|rfl|rfl|rfl|rfl|rfl|rfl|rfl|rfl|rfl|rfl|rfl|rfl|rfl
 ·omega
 all_goals decide
theorem Z6X{e:Ex}(h:Z0j e=true):1<=e.op/\e.op<=16:=by
 rcases Z3z h with ⟨n,rfl,_⟩|⟨s,rfl,hs⟩|⟨op,a,hop,rfl,_⟩|⟨op,a,b,hop,rfl,_⟩
 all_goals (simp only[Ex.op];omega)
theorem Zky{n:Int}(h0:0<=n)(h1:rgI n)(least:Int)(hl:least<=11):Z2X (.mk 1 n [] []) least:=by
 intro s d hb
 have ht:brk (Ex.op (.mk 1 n [] []),wrE (.mk 1 n [] [])) least=Z1W n:=if_neg (show ¬(11:Int)<least by omega)
 rw[ht]at hb⊢
 obtain⟨O,hO,⟨p1,-⟩,⟨p3,p4,-⟩⟩:=Z5E (P:=Y00) (gl:=rgl) [wmPut.fam] [ZbF,Zob] rfl
 have q3:∀H,Z02 Y00 O H 171 [.int .i64 1]=some (.int .i64 11,H):=p3 (1:Int) trivial
 have q4:∀H,Z02 Y00 O H 173 [.int .i64 n,.int .i64 10]=some (.str (Z1W n),H):=p4 n ⟨h0,h1⟩
 have e1:decide ((11:Int)<least)=false:=by simp only[decide_eq_false_iff_not];omega
 have hne:Z1W n≠[]:=Zdf _
 clear p3 p4 ht
 simp only[Y02]at hb
 generalize Z1W n=w at *
 simp only[Ex.cells]
 generalize hN:WH tW tB (s++w) d=N
 refine Z5C follows Z07 hO Y0u rfl ?_
 cases s with
 |nil =>
  simp only[WH]
  repeat' ((conv=>whnf);first|with_reducible refine exI (q3 _) ?_|with_reducible refine exI (q4 _) ?_|(refine Znr (ZoC p1 w [] w (Y07 _) rfl hne ?_ rfl rfl rfl rfl) ?_;(exact leS))|refine stp ?_|with_reducible apply Z01<;>intro h)
  conv=>whnf
  (apply Zj0 hN;rotate_left;rotate_left;(focus (exact rfl));(focus (exact rfl));(focus (exact rfl));(focus (exact rfl));(focus (simp;done));(exact neS))
 |cons c t =>
  simp only[WH]
  repeat' ((conv=>whnf);first|with_reducible refine exI (q3 _) ?_|with_reducible refine exI (q4 _) ?_|(refine Zd9 (Zl6 p1 [w] w (Y07 _) rfl ?_ ?_ rfl rfl rfl rfl rfl) ?_;(exact neS);(exact leS))|refine stp ?_|with_reducible apply Z01<;>intro h)
  conv=>whnf
  (apply Zj0 hN;rotate_left;rotate_left;(focus (exact rfl));(focus (exact rfl));(focus (exact rfl));(focus (exact rfl));(focus (simp;done));(exact neS))
theorem Zkx{w:List UInt8}(hw:Z3u w=true)(least:Int)(hl:least<=11):Z2X (.mk 2 0 w []) least:=by
 intro s d hb
 have ht:brk (Ex.op (.mk 2 0 w []),wrE (.mk 2 0 w [])) least=w:=if_neg (show ¬(11:Int)<least by omega)
 rw[ht]at hb⊢
 obtain⟨O,hO,⟨p1,-⟩,⟨p3,-⟩⟩:=Z5E (P:=Y00) (gl:=rgl) [wmPut.fam] [ZbF] rfl
 have q3:∀H,Z02 Y00 O H 171 [.int .i64 2]=some (.int .i64 11,H):=p3 (2:Int) trivial
 have e1:decide ((11:Int)<least)=false:=by simp only[decide_eq_false_iff_not];omega
 have hne:w≠[]:=ZdJ hw
 clear p3 ht
 simp only[Y02]at hb
 simp only[Ex.cells]
 generalize hN:WH tW tB (s++w) d=N
 refine Z5C follows Z07 hO Y0u rfl ?_
 cases s with
 |nil =>
  simp only[WH]
  repeat' ((conv=>whnf);first|with_reducible refine exI (q3 _) ?_|(refine Znr (ZoC p1 w [] w (Y07 _) rfl hne ?_ rfl rfl rfl rfl) ?_;(exact leS))|refine stp ?_|with_reducible apply Z01<;>intro h)
  conv=>whnf
  (apply Zj0 hN;rotate_left;rotate_left;(focus (exact rfl));(focus (exact rfl));(focus (exact rfl));(focus (exact rfl));(focus (simp;done));(exact neS))
 |cons c t =>
  simp only[WH]
  repeat' ((conv=>whnf);first|with_reducible refine exI (q3 _) ?_|(refine Zd9 (Zl6 p1 [w] w (Y07 _) rfl ?_ ?_ rfl rfl rfl rfl rfl) ?_;(exact neS);(exact leS))|refine stp ?_|with_reducible apply Z01<;>intro h)
  conv=>whnf
  (apply Zj0 hN;rotate_left;rotate_left;(focus (exact rfl));(focus (exact rfl));(focus (exact rfl));(focus (exact rfl));(focus (simp;done));(exact neS))
theorem ZmP{op:Int}(hop:op=3\/op=4){a:Ex}(hr:Z0j a=true)(ha:Z2X a 10)(least:Int)(hl:least<=10):Z2X (.mk op 0 [] [a]) least:=by
 intro s d hb
 have ht:brk (Ex.op (.mk op 0 [] [a]),wrE (.mk op 0 [] [a])) least=Z5T op++brk (a.op,wrE a) 10:=by
  have h1:lev op=10:=by rcases hop with rfl|rfl<;>rfl
  have h2:wrE (.mk op 0 [] [a])=Z5T op++brk (a.op,wrE a) 10:=by
   simp only[wrE,wrL,wrC]
   rw[if_neg (by omega),if_neg (by omega)]
  rw[<- h2]
  exact if_neg (show ¬lev op<least by omega)
 rw[ht]at hb⊢
 obtain⟨O,hO,⟨p1,p2,-⟩,⟨p3,p4,-⟩⟩:=Z5E (P:=Y00) (gl:=rgl) [wmPut.fam,(Z6o (λe' l=>e'=a/\l=10) (λe' l h=>by rw[h.1];exact hr) (λe' l h=>by rw[h.1,h.2];exact ha)).fam] [ZbF,Zlm] rfl
 have h10:lev op=10:=by rcases hop with rfl|rfl<;>rfl
 have q3:∀H,Z02 Y00 O H 171 [.int .i64 op]=some (.int .i64 (lev op),H):=p3 op trivial
 rw[h10]at q3
 have q4:∀H,Z02 Y00 O H 174 [.int .i64 op]=some (.str (Z5T op),H):=p4 op trivial
 have q1:=λ{s:List UInt8} {b c fb fc:Nat} {H:Z00} {rest:List AV} {d:Int} hs hb e2 e1 e3 e4 e5=>Zig p2 a 10 ⟨rfl,rfl⟩ (s:=s) (b:=b) (c:=c) (fb:=fb) (fc:=fc) (H:=H) (rest:=rest) (d:=d) hs hb e2 e1 e3 e4 e5
 have hx:=ex4 [a] 0 (by simp)
 simp only[List.getElem_cons_zero]at hx
 have e1:decide ((10:Int)<least)=false:=by simp only[decide_eq_false_iff_not];omega
 have e2:(op==1)=false:=by simp;omega
 have e3:(op==2)=false:=by simp;omega
 have hne:=Zl3 hop
 clear p2 p3 p4 ht ha hr hop
 simp only[Y02]at hb
 generalize Z5T op=w at *
 generalize brk (a.op,wrE a) 10=v at *
 simp only[Ex.cells]
 generalize exC [a]=ks at *
 obtain⟨ao,an,as_,ak⟩:=a
 simp only[Ex.cells]at *
 generalize hN:WH tW tB (s++(w++v)) d=N
 refine Z5C follows Z07 hO Y0u rfl ?_
 cases s with
 |nil =>
  simp only[WH]
  repeat' ((conv=>whnf);first|with_reducible refine exI (q3 _) ?_|with_reducible refine exI (q4 _) ?_|refine exI hx ?_|(refine Znr (ZoC p1 w [] w (Y07 _) rfl hne ?_ rfl rfl rfl rfl) ?_;(exact leS))|(refine Zd9 (q1 ?_ ?_ rfl rfl rfl rfl rfl) ?_;(exact neS);(exact leS))|refine stp ?_|with_reducible apply Z01<;>intro h)
  conv=>whnf
  (apply Zj0 hN;rotate_left;rotate_left;(focus (exact rfl));(focus (exact rfl));(focus (exact rfl));(focus (exact rfl));(focus (simp;done));(exact neS))
 |cons c t =>
  simp only[WH]
  repeat' ((conv=>whnf);first|with_reducible refine exI (q3 _) ?_|with_reducible refine exI (q4 _) ?_|refine exI hx ?_|(refine Zd9 (Zl6 p1 [w] w (Y07 _) rfl ?_ ?_ rfl rfl rfl rfl rfl) ?_;(exact neS);(exact leS))|(refine Zd9 (q1 ?_ ?_ rfl rfl rfl rfl rfl) ?_;(exact neS);(exact leS))|refine stp ?_|with_reducible apply Z01<;>intro h)
  conv=>whnf
  (apply Zj0 hN;rotate_left;rotate_left;(focus (exact rfl));(focus (exact rfl));(focus (exact rfl));(focus (exact rfl));(focus (simp;done));(exact neS))
theorem ZkA{op:Int}(hop:5<=op/\op<=16){a b:Ex}(hra:Z0j a=true)(hrb:Z0j b=true)(ha:Z2X a (lev op))(hb':Z2X b (lev op+1))(least:Int)(hl:least<=lev op):Z2X (.mk op 0 [] [a,b]) least:=by
 intro s d hb
 have hl1:1<=lev op/\lev op<=9:=by
  rcases Z28 op with hout|rfl|rfl|rfl|rfl|rfl|rfl|rfl|rfl|rfl|rfl|rfl|rfl|rfl|rfl|rfl|rfl
  any_goals omega
  all_goals decide
 have ht:brk (Ex.op (.mk op 0 [] [a,b]),wrE (.mk op 0 [] [a,b])) least=brk (a.op,wrE a) (lev op)++(32::(Z5T op++(32::brk (b.op,wrE b) (lev op+1)))):=by
  have h2:wrE (.mk op 0 [] [a,b])=brk (a.op,wrE a) (lev op)++(32::(Z5T op++(32::brk (b.op,wrE b) (lev op+1)))):=by
   simp only[wrE,wrL,wrC]
   rw[if_neg (by omega),if_neg (by omega)]
  rw[<- h2]
  exact if_neg (show ¬lev op<least by omega)
 rw[ht]at hb⊢
 obtain⟨O,hO,⟨p1,p2,-⟩,⟨p3,p4,-⟩⟩:=Z5E (P:=Y00) (gl:=rgl) [wmPut.fam,(Z6o (λe' l=>(e'=a/\l=lev op)\/(e'=b/\l=lev op+1)) (λe' l h=>by rcases h with h|h;rw[h.1];exact hra;rw[h.1];exact hrb) (λe' l h=>by rcases h with h|h;rw[h.1,h.2];exact ha;rw[h.1,h.2];exact hb')).fam] [ZbF,Zlm] rfl
 have q3:∀H,Z02 Y00 O H 171 [.int .i64 op]=some (.int .i64 (lev op),H):=p3 op trivial
 have q4:∀H,Z02 Y00 O H 174 [.int .i64 op]=some (.str (Z5T op),H):=p4 op trivial
 have q0:=λ{b' fb:Nat} {H:Z00} {rest:List AV} {d:Int} hb e1 e2 e3 e4=>Zoc p2 a (lev op) (.inl ⟨rfl,rfl⟩) (b:=b') (fb:=fb) (H:=H) (rest:=rest) (d:=d) hb e1 e2 e3 e4
 have q1:=λ{s:List UInt8} {b' c fb fc:Nat} {H:Z00} {rest:List AV} {d:Int} hs hb e2 e1 e3 e4 e5=>Zig p2 a (lev op) (.inl ⟨rfl,rfl⟩) (s:=s) (b:=b') (c:=c) (fb:=fb) (fc:=fc) (H:=H) (rest:=rest) (d:=d) hs hb e2 e1 e3 e4 e5
 have q2:=λ{s:List UInt8} {b' c fb fc:Nat} {H:Z00} {rest:List AV} {d:Int} hs hb e2 e1 e3 e4 e5=>Zig p2 b (lev op+1) (.inr ⟨rfl,rfl⟩) (s:=s) (b:=b') (c:=c) (fb:=fb) (fc:=fc) (H:=H) (rest:=rest) (d:=d) hs hb e2 e1 e3 e4 e5
 have hx:=ex4 [a,b] 0 (by simp)
 have hy:=ex4 [a,b] 1 (by simp)
 simp only[List.getElem_cons_zero,List.getElem_cons_succ]at hx hy
 have hva:brk (a.op,wrE a) (lev op)≠[]:=Zlo (ZdI hra)
 have e2:(op==1)=false:=by simp;omega
 have e3:(op==2)=false:=by simp;omega
 generalize brk (a.op,wrE a) (lev op)=va at *
 generalize brk (b.op,wrE b) (lev op+1)=vb at *
 obtain⟨lv,hlv⟩:∃lv,lev op=lv:=⟨_,rfl⟩
 rw[hlv]at q3 q0 q1 q2 hl hl1
 have e1:decide (lv<least)=false:=by simp only[decide_eq_false_iff_not];omega
 have e4:(lv==10)=false:=by simp;omega
 have w1:IntKind.i64.wrap (lv+1)=lv+1:=Z2r (by omega) (by omega)
 clear p2 p3 p4 ht ha hb' hra hrb hop hlv hl hl1
 simp only[Y02,Y0b]at hb
 generalize Z5T op=w at *
 simp only[Ex.cells]
 generalize exC [a,b]=ks at *
 obtain⟨ao,an,as_,ak⟩:=a
 obtain⟨bo,bn,bs_,bk⟩:=b
 simp only[Ex.cells]at *
 generalize hN:WH tW tB (s++(va++32::(w++32::vb))) d=N
 refine Z5C follows Z07 hO Y0u rfl ?_
 cases s with
 |nil =>
  simp only[WH]
  repeat' ((conv=>whnf);first|with_reducible refine exI (q3 _) ?_|with_reducible refine exI (q4 _) ?_|(with_reducible refine exW w1 ?_)|refine exI hx ?_|refine exI hy ?_|(refine Znr (q0 ?_ rfl rfl rfl rfl) ?_;(exact leS))|(refine Zd9 (Zl6 p1 [[32],w,[32]] (32::(w++[32])) rfl rfl ?_ ?_ rfl rfl rfl rfl rfl) ?_;(exact neS);(exact leS))|(refine Zd9 (q2 ?_ ?_ rfl rfl rfl rfl rfl) ?_;(exact neS);(exact leS))|refine stp ?_|with_reducible apply Z01<;>intro h)
  conv=>whnf
  (apply Zj0 hN;rotate_left;rotate_left;(focus (exact rfl));(focus (exact rfl));(focus (exact rfl));(focus (exact rfl));(focus (simp;done));(exact neS))
 |cons c t =>
  simp only[WH]
  repeat' ((conv=>whnf);first|with_reducible refine exI (q3 _) ?_|with_reducible refine exI (q4 _) ?_|(with_reducible refine exW w1 ?_)|refine exI hx ?_|refine exI hy ?_|(refine Zd9 (q1 ?_ ?_ rfl rfl rfl rfl rfl) ?_;(exact neS);(exact leS))|(refine Zd9 (Zl6 p1 [[32],w,[32]] (32::(w++[32])) rfl rfl ?_ ?_ rfl rfl rfl rfl rfl) ?_;(exact neS);(exact leS))|(refine Zd9 (q2 ?_ ?_ rfl rfl rfl rfl rfl) ?_;(exact neS);(exact leS))|refine stp ?_|with_reducible apply Z01<;>intro h)
  conv=>whnf
  (apply Zj0 hN;rotate_left;rotate_left;(focus (exact rfl));(focus (exact rfl));(focus (exact rfl));(focus (exact rfl));(focus (simp;done));(exact neS))
theorem Z7c:∀(n:Nat)(e:Ex),Z0a e<=n->Z0j e=true->rgE e->∀least:Int,least<=11->Z2X e least
 |0,e,h,_,_,_,_=>by have:=Z1r e;omega
 |n+1,e,h,hr,hg,least,hl=>by
  have hlow:∀l:Int,l<=lev e.op->Z2X e l:=by
   intro l hle
   have hp:=ZcW (Z6X hr)
   rcases Z3z hr with ⟨m,rfl,hm⟩|⟨w,rfl,hw⟩|⟨op,a,hop,rfl,h1⟩|⟨op,a,b,hop,rfl,h1,h2⟩
   · simp only[rgE]at hg
     exact Zky hm hg.1 l (by omega)
   ·exact Zkx hw l (by omega)
   · simp only[rgE,rgL]at hg
     simp only[Z0a,sizeL]at h
     have:lev op=10:=by rcases hop with rfl|rfl<;>rfl
     simp only[Ex.op]at hle
     exact ZmP hop h1 (Z7c n a (by omega) h1 hg.2.1 10 (by omega)) l (by omega)
   · simp only[rgE,rgL]at hg
     simp only[Z0a,sizeL]at h
     simp only[Ex.op]at hle hp
     have h9:lev op<=9:=by
      rcases Z28 op with hout|rfl|rfl|rfl|rfl|rfl|rfl|rfl|rfl|rfl|rfl|rfl|rfl|rfl|rfl|rfl|rfl
      any_goals omega
      all_goals decide
     exact ZkA hop h1 h2 (Z7c n a (by omega) h1 hg.2.1 _ (by omega)) (Z7c n b (by omega) h2 hg.2.2.1 _ (by omega)) l hle
  by_cases hlt:lev e.op<least
  · have hp:=ZcW (Z6X hr)
    exact Zkz hr hlt (hlow 0 (by omega)) (by omega)
  ·exact hlow least (by omega)
end
section
def Zkn(e:Ex):Prop:=Z0j e=true/\rgE e
theorem ZpF{e:Ex}(h:Z0j e=true):brk (e.op,wrE e) 0=wrE e:=by
 have:=ZcW (Z6X h)
 exact if_neg (show ¬lev e.op<0 by omega)
abbrev wmE:WM Y00 rgl tW tB:=Z6o (λe l=>Zkn e/\l=0) (λe l h=>h.1.1) (λe l h=>by rw[h.2];exact Z7c _ e (Y06 _) h.1.1 h.1.2 0 (by omega))
theorem e1 {O : Orc} (h : wmE.fam.Ask O) {e : Ex} (g : Zkn e) {w : List UInt8} (hw : wrE e = w) {s : List UInt8} {b c fb fc : Nat} {H : Z00} {rest : List AV} {d : Int} (hs : s ≠ []) (hb : (s ++ w).length <= 1073741824)
  (e2:H[b]? = some ⟨true,fb,0,.cells [.ptr b 0,.slice c 0 s.length s.length 1,.int .i64 d] tW⟩) (e1:H[c]? = some ⟨true,fc,0,.cells (byt s) tB⟩) (e3:Nat.beq fb fc=false) (e4:Z29 [b,c] [fb,fc] 0 H=true) (e5:Z0T (Z4A [b,c] (Z5U [b,c] H) 30) rest=some [.agg e.cells,.int .i64 0]) :
  Z02 Y00 O H 136 (.ptr b 0::rest)=some (.tuple [],ZjL tW tB H b c fb fc (s++w) d):=by
 have h1:=Zig h e 0 ⟨g,rfl⟩ (s:=s) (b:=b) (c:=c) (fb:=fb) (fc:=fc) (H:=H) (rest:=rest) (d:=d) hs
 rw[ZpF g.1,hw]at h1
 exact h1 hb e2 e1 e3 e4 e5
theorem e0 {O : Orc} (h : wmE.fam.Ask O) {e : Ex} (g : Zkn e) {w : List UInt8} (hw : wrE e = w) {b fb : Nat} {H : Z00} {rest : List AV} {d : Int} (hb : w.length <= 1073741824)
  (e1:H[b]? = some ⟨true,fb,0,.cells [.nptr,.nslice,.int .i64 d] tW⟩) (e2:Z29 [b] [fb] 0 H=true) (e3:Z69 H.length H=true) (e4:Z0T (Z4A [b] (Z5U [b] H) 30) rest=some [.agg e.cells,.int .i64 0]) :
  Z02 Y00 O H 136 (.ptr b 0::rest)=some (.tuple [],ZjM tW tB H b fb w d):=by
 have h1:=Zoc h e 0 ⟨g,rfl⟩ (b:=b) (fb:=fb) (H:=H) (rest:=rest) (d:=d)
 rw[ZpF g.1,hw]at h1
 exact h1 hb e1 e2 e3 e4
end
section
section
variable {σ : Type}
def Zft(r:Bool×σ)(f : σ -> Bool×σ):Bool×σ:=if r.1=true then f r.2 else (false,r.2)
end
end
section
def Z9U(f:Nat)(xs:List AV):Option AV:=match f with
 |203=>match xs with|[.str s,.bool m]=>if s.length<=9223372036854775807 then some (.bool (if m then Z3u s else s==[])) else none|_=>none
 |_=>none
theorem Z2l{gl:Z0o}:OrcSound Y00 gl (Z9K Z9U):=Z1z λf xs r h=>by
 unfold Z9U at h
 split at h
 · split at h<;>try (cases h;done)
   split at h<;>cases h
   rename_i hs
   exact⟨rfl,ZhO _ hs _⟩
 ·cases h
theorem ZaC:Z3u []=false:=rfl
theorem Zh4(e:Ex)(rest:List AV)(d:Int)(hok:okE e):ValOK Y00 runLives.gl 170 [.rp (e.cells++rest),.int .i64 d] (.bool (Zp0 e)):=by
 obtain⟨⟨hn1,hn2⟩,_⟩:=Z0S hok
 have hb:Z0l Y00 203=true:=by kernel_rfl
 have key:∀(op num:Int)(name:List UInt8)(v:AV)(n:Nat),(∃cs,v = .rs n 4 cs)->name.length<=9223372036854775807->ValOK Y00 runLives.gl 170 [.rp (.int .i64 op::.int .i64 num::.str name::v::rest),.int .i64 d] (.bool (ZaA op num name n)):=by
  intro op num name v n hv hname
  have q:∀(m:Bool)(H:Z00),Z02 Y00 (Z9K Z9U) H 203 [.str name,.bool m]=some (.bool (if m then Z3u name else name==[]),H):=λm H=>Zaj hb rfl (by simp only[Z9U];rw[if_pos hname])
  by_cases h1:op<1
  · have e1:decide (op<1)=true:=by simpa using h1
    have hk:Z4N op = -1:=by unfold Z4N;rw[if_neg (by omega),if_neg (by omega),if_neg (by omega)]
    obtain⟨cs,rfl⟩:=hv
    all_goals
     refine Z05 follows Z07 Z2l Tryz.func170 rfl ?_
     repeat' ((conv=>whnf);first|refine exI (q _ _) ?_|refine stp ?_|with_reducible apply Z01<;>intro h)
    all_goals (show AV.bool _=AV.bool _;congr 1;unfold ZaA;rw[hk])
    all_goals (first|rfl|(symm;simp;intros;omega))
  · have e1:decide (op<1)=false:=by simpa using h1
    by_cases h2:16<op
    · have e2:decide (op>16)=true:=by simpa using h2
      have hk:Z4N op = -1:=by unfold Z4N;rw[if_neg (by omega),if_neg (by omega),if_neg (by omega)]
      obtain⟨cs,rfl⟩:=hv
      all_goals
       refine Z05 follows Z07 Z2l Tryz.func170 rfl ?_
       repeat' ((conv=>whnf);first|refine exI (q _ _) ?_|refine stp ?_|with_reducible apply Z01<;>intro h)
      all_goals (show AV.bool _=AV.bool _;congr 1;unfold ZaA;rw[hk])
      all_goals (first|rfl|(symm;simp;intros;omega))
    · clear e1
      have hop:op=1\/op=2\/op=3\/op=4\/op=5\/op=6\/op=7\/op=8\/op=9\/op=10\/op=11\/op=12\/op=13\/op=14\/op=15\/op=16:=by omega
      clear h1 h2
      rcases hop with rfl|rfl|rfl|rfl|rfl|rfl|rfl|rfl|rfl|rfl|rfl|rfl|rfl|rfl|rfl|rfl
      all_goals (obtain⟨cs,rfl⟩:=hv)
      all_goals (refine Z05 follows Z07 Z2l Tryz.func170 rfl ?_)
      all_goals (repeat' ((conv=>whnf);first|refine exI (q _ _) ?_|refine stp ?_|with_reducible apply Z01<;>intro h))
      all_goals (first|rfl|(show AV.bool _=AV.bool _;clear q hb hok hn1 hn2;simp_all[ZaA,Z4N];done)|(show AV.bool _=AV.bool _;clear q hb hok hn1 hn2;simp_all[ZaA,Z4N];omega)|skip)
      all_goals (clear q hb hok hn1 hn2)
      all_goals (show AV.bool _=AV.bool _;rw[AV.bool.injEq,Y0D])
      all_goals (first|(simp_all[ZaA,Z4N,ZaC];done)|(simp_all[ZaA,Z4N,ZaC];omega))
 obtain⟨op,num,name,kids⟩:=e
 simp only[Ex.cells];exact key op num name _ kids.length ⟨_,rfl⟩ hn1
end
section
theorem ZnQ{sn:Z0g}{ι : Z0f}{W:World}(h:R sn ι [] W) : ι = noI:=by
 funext b
 cases hb : ι b with
 |none=>rfl
 |some p=>have:=(h.dom b).2 ⟨p,hb⟩;simp at this
theorem ZfO{P:Program}{gl:Z0o}{f:Nat}{args:List AV}{r:AV}(h:ValOK P gl f args r)(hp:plain r=true):Z10 P gl f args [] r []:=by
 intro sn ι W cargs hg hR ha
 have:=ZnQ hR;subst this
 refine (h sn W cargs hg hR ha).monoY ?_
 rintro e W' ⟨v,rfl,hx,hv⟩
 exact⟨v,sn,noI,rfl,Z5n hp hv,Stp.ext hR hx⟩
theorem Zfo{P:Program}{gl:Z0o}{f:Nat}{args:List AV}{r:AV}(h:Z10 P gl f args [] r [])(hp:plain r=true)(hb:(P.funcs[f]?).isSome=true:=by kernel_rfl):ValOK P gl f args r:=by
 intro sn W cargs hg hR ha
 obtain⟨fn,hfn⟩:=Option.isSome_iff_exists.1 hb
 refine ((h sn noI W cargs hg hR ha).calls hfn).mono ?_
 rintro e W' ⟨v,sn',ι',rfl,hv,hs⟩
 exact⟨v,rfl,⟨λc hc=>hs.frame c hc λb o p hb=>by simp at hb,hs.size,hs.os,hs.tape,hs.output⟩,Z5n hp hv⟩
def rE(e:Ex)(_:Int)(s:Unit):Bool×Unit:=(Zp0 e,s)
mutual
theorem Zpe:∀(e:Ex)(d:Int)(s:Unit),goE rE e d s=(Z0j e,())
 | .mk o n s k,d,t=>by
  have:=goL_r k (d+1) ()
  simp only[goE,rE,Zp0,Ex.op,Ex.num,Ex.name,Ex.kids,Z0j,this]
  cases ZaA o n s k.length<;>rfl
theorem goL_r:∀(l:List Ex)(d:Int)(s:Unit),goL rE l d s=(rightL l,())
 |[],d,s=>by simp only[goL,rightL]
 |e::l,d,s=>by
  simp only[goL,Zpe e d s,goL_r l d (),rightL]
  cases Z0j e<;>rfl
end
def rVE:TvE runLives.gl where
 σ:=Unit
 Mem:=λ_=>[]
 k:=0
 len:=λ_=>rfl
 same:=λ_=>⟨trivial,rfl,rfl⟩
 evo:=λ_ _=>rfl
 inj:=λ_ _ _=>rfl
 I:=λd s m=>0<=d/\d+m<=1152921504606846976
 up:=λd s m h0 h=>⟨h0,by have:=h.2;omega⟩
 less:=λd s m h=>⟨h.1,by have:=h.2;omega⟩
 bnd:=λd s m h=>⟨h.1,by have:=h.2;omega⟩
 gE:=170
 cE:=[]
 hE:=rE
 bodyE:=by kernel_rfl
 wkE:=trivial
 okE:=λe rest d s m ho _=>ZfO (Zh4 e rest d ho) rfl
 downE:=λe d s m h _=>⟨by have:=h.1;omega,by have:=h.2;omega⟩
theorem ZmO(l:List Ex)(d:Int)(hok:okL l)(hl:l.length<=9223372036854775807)(h0:0<=d)(h1:d+sizeL l<=1152921504606846976):ValOK Y00 runLives.gl 168 [exA l,.int .i64 d,.func (.func 170) [] []] (.bool (rightL l)):=by
 have:=TvE.exprs rVE follows (sizeL l) l d () 0 (Y06 _) hok hl ⟨h0,h1⟩
 have e:(goL rVE.hE l d ()).1=rightL l:=by
  have:=goL_r l d ()
  show (goL rE l d ()).1=_
  rw[this]
 rw[e]at this
 exact Zfo this rfl
def cE(_:Ex)(d:Int)(n:Nat):Bool×Nat:=(decide (((n+1:Nat):Int)<=2000)&&decide (d<=32),n+1)
def Cnt(r:Bool×Nat)(n a:Nat)(D:Int):Prop:=(r.1=true ↔ n+a<=2000/\D<=33)/\(r.1=true->r.2=n+a)
theorem Zf6{r:Bool×Nat}{f:Nat->Bool×Nat}{n a b:Nat}{D1 D2:Int}(h1:Cnt r n a D1)(h2:n+a<=2000->D1<=33->Cnt (f (n+a)) (n+a) b D2):Cnt (Zft r f) n (a+b) (max D1 D2):=by
 obtain⟨g1,g2⟩:=h1
 unfold Zft
 by_cases h:r.1=true
 · rw[if_pos h,g2 h]
   have h3:=g1.1 h
   obtain⟨k1,k2⟩:=h2 h3.1 h3.2
   refine⟨?_,λh4=>by rw[k2 h4];omega⟩
   rw[k1]
   constructor<;>(intro h;omega)
 · rw[if_neg h]
   refine⟨⟨λh=>(by cases h),λh3=>absurd (g1.2 (by omega)) h⟩,λh=>(by cases h)⟩
theorem Zip(d:Int)(n:Nat):Cnt (decide (((n+1:Nat):Int)<=2000)&&decide (d<=32),n+1) n 1 (d+1):=by
 refine⟨?_,λ_=>rfl⟩
 simp only[Y0d,decide_eq_true_eq]
 constructor<;>(intro h;omega)
theorem Cnt.to{r:Bool×Nat}{n a b:Nat}{D E:Int}(h:Cnt r n a D)(e1:a=b)(e2:D=E):Cnt r n b E:=by subst e1;subst e2;exact h
mutual
theorem Zpf:∀(e:Ex)(d:Int)(n:Nat),Cnt (goE cE e d n) n (Z0a e) (d+Z2A e)
 | .mk o num s k,d,n=>by
  have:goE cE (.mk o num s k) d n=Zft (cE (.mk o num s k) d n) λn=>goL cE k (d+1) n:=by simp only[goE,Zft]
  rw[this]
  exact (Zf6 (Zip d n) λh1 h2=>goL_c k (d+1) (n+1) h1 h2).to (by simp only[Z0a]) (by simp only[Z2A];omega)
theorem goL_c:∀(l:List Ex)(d:Int)(n:Nat),n<=2000->d<=33->Cnt (goL cE l d n) n (sizeL l) (d+deepL l)
 |[],d,n,h1,h2=>by simp only[goL,sizeL,deepL];exact⟨⟨λ_=>by omega,λ_=>rfl⟩,λ_=>rfl⟩
 |e::l,d,n,h1,h2=>by
  have:goL cE (e::l) d n=Zft (goE cE e d n) λn=>goL cE l d n:=by simp only[goL,Zft]
  rw[this]
  exact (Zf6 (Zpf e d n) λh1 _=>goL_c l d _ h1 h2).to (by simp only[sizeL]) (by simp only[deepL];omega)
end
end
section
def Z7N(n:Nat):Z00:=[⟨true,0,0,.cells [.func (.func 202) [] [.ptr 1 0]] 131⟩,⟨true,1,0,.cells [.int .i64 n] 3⟩]
theorem keep1_ok(cs:List AV)(d:Int)(n:Nat)(hn:n<=2000):Z10 Y00 runLives.gl 169 [.rp cs,.int .i64 d,.ptr 0 0] (Z7N n) (.bool (decide (((n+1:Nat):Int)<=2000)&&decide (d<=32))) (Z7N (n+1)):=by
 refine Zi8 (k:=2) follows Z07 (Z3d follows Z07 Z2l 3) rfl Tryz.func169 rfl (Z55 (isC:=λ_=>false) 3) ?_
 repeat' ((conv=>whnf);first|refine stp ?_|with_reducible apply Z01<;>intro h)
 all_goals (conv=>whnf)
 ·exact⟨by rw[h];rfl,rfl,rfl⟩
 ·exact⟨by rw[h];rfl,rfl,rfl⟩
theorem ZhN{n m:Nat}(h:Z7N n=Z7N m):n=m:=by
 simp only[Z7N,List.cons.injEq,AObj.mk.injEq,ABody.cells.injEq,AV.int.injEq,and_true,true_and]at h
 omega
theorem Zon(e:Ex)(rest:List AV)(d:Int)(s:Nat)(h:s<=2000):Z10 Y00 runLives.gl 169 ([.rp (e.cells++rest),.int .i64 d]++[.ptr 0 0]) (Z7N s) (.bool (lex.cE e d s).1) (Z7N (lex.cE e d s).2) :=
 keep1_ok (e.cells++rest) d s h
theorem ZkI(e:Ex)(d:Int)(s:Nat)(h:0<=d/\d<=33/\s<=2000)(ht:(lex.cE e d s).1=true):0<=d+1/\d+1<=33/\(lex.cE e d s).2<=2000 :=
 have h2:s+1<=2000/\d+1<=33:=(Zip d s).1.1 ht
 have h3:0<=d:=h.1
 ⟨by clear h ht h2;omega,h2.2,h2.1⟩
def ceV:TvE runLives.gl where
 σ:=Nat
 Mem:=Z7N
 k:=2
 len:=λ_=>rfl
 same:=λs=>⟨⟨⟨rfl,rfl,rfl,rfl,Y0k ⟨Wk.func trivial ⟨Y04 rfl rfl,trivial⟩,trivial⟩⟩,hbp,trivial⟩,rfl,rfl⟩
 evo:=λ_ _=>rfl
 inj:=λ_ _ h=>ZhN h
 I:=λd s m=>0<=d/\d<=33/\s<=2000
 up:=λd s m h0 h=>⟨h0,by have:=h.2.1;omega,h.2.2⟩
 less:=λd s m h=>h
 bnd:=λd s m h=>⟨h.1,by have:=h.2.1;omega⟩
 gE:=169
 cE:=[.ptr 0 0]
 hE:=lex.cE
 bodyE:=by kernel_rfl
 wkE:=⟨Y04 rfl rfl,trivial⟩
 okE:=λe rest d s m _ h=>by
  exact Zon e rest d s h.2.2
 downE:=λe d s m h ht=>ZkI e d s h ht
def ceH(cs:List AV)(n:Nat):Z00:=[⟨true,0,0,.cells cs 69⟩,⟨true,1,0,.cells [.int .i64 n] 3⟩,⟨true,2,0,.cells cs 69⟩,⟨true,3,0,.cells [.func (.func 202) [] [.ptr 1 0]] 131⟩]
theorem Zn0(e:Ex)(hok:okE e):Z10 Y00 runLives.gl 168 [.slice 2 0 1 1 4,.int .i64 1,.func (.func 169) [] [.ptr 3 0]] (ceH e.cells 0) (.bool (goL cE [e] 1 0).1) (ceH e.cells (goL cE [e] 1 0).2):=by
 have hM:=TvE.exprs ceV follows (sizeL [e]) [e] 1 (0:Nat) 0 (Y06 _) (by simp only[okL];exact⟨hok,trivial⟩) (by simp) ⟨by omega,by omega,by omega⟩
 have hM:Z10 Y00 runLives.gl 168 [exA [e],.int .i64 1,.func (.func 169) [] [.ptr 0 0]] (Z7N 0) (.bool (goL cE [e] 1 0).1) (Z7N (goL cE [e] 1 0).2):=hM
 simp only[exA,exC,Y07]at hM
 generalize hb:(goL cE [e] 1 0).1=b at *
 generalize hn:(goL cE [e] 1 0).2=n at *
 have h:=Zbg (m:=[3,1]) (n:=3) (Hc:=ceH e.cells 0) (cargs:=[.slice 2 0 1 1 4,.int .i64 1,.func (.func 169) [] [.ptr 3 0]]) hM ?_ ?_ rfl rfl rfl rfl rfl rfl
 · have e1:ZdV [3,1] (Z7N n) 0 (ceH e.cells 0)=ceH e.cells n:=rfl
   rw[e1]at h
   exact h
 · obtain⟨op,num,name,kids⟩:=e
   simp only[Ex.cells];rfl
 ·exact⟨⟨rfl,rfl,rfl,rfl,Y0k ⟨Wk.func trivial ⟨Y04 rfl rfl,trivial⟩,trivial⟩⟩,hbp,trivial⟩
section
open Classical
noncomputable def ceF(cs:List AV)(r:Bool):Nat->List AV->Option AV:=λf a=>if f=168/\a=[.rs 1 4 cs,.int .i64 1,.func (.func 170) [] []] then some (.bool r) else none
end
theorem Zj7(e:Ex):((goL cE [e] 1 0).1=true ↔ ¬(2000<Z0a e\/32<Z2A e)):=by
 rw[(goL_c [e] 1 0 (by omega) (by omega)).1]
 simp only[sizeL,deepL];omega
theorem Zg0(e:Ex)(hok:okE e)(hs:Z0a e<=1048576):ValOK Y00 runLives.gl 135 [.agg e.cells] (.int .i64 (Z0K e)):=by
 have hI:=Zn0 e hok
 have hw:=Zj7 e
 have hr:ValOK Y00 runLives.gl 168 [.rs 1 4 e.cells,.int .i64 1,.func (.func 170) [] []] (.bool (Z0j e)):=by
  have h:=ZmO [e] 1 (by simp only[okL];exact⟨hok,trivial⟩) (by simp) (by omega) (by simp only[sizeL];omega)
  simpa only[exA,exC,Y07,List.length_singleton,rightL,Bool.and_true]using h
 have hZ:=Z1z (P:=Y00) (gl:=runLives.gl) (F:=ceF e.cells (Z0j e)) λf args r h=>by
  unfold ceF at h
  split at h
  · rename_i h2
    obtain⟨rfl,rfl⟩:=h2
    simp only[Option.some.injEq]at h
    subst h
    exact⟨rfl,hr⟩
  ·cases h
 unfold Z0K
 generalize hb:(goL cE [e] 1 0).1=b at *
 generalize hn:(goL cE [e] 1 0).2=n at *
 have hO1:=Z4p (P:=Y00) (gl:=runLives.gl) (I:=Unit) (G:=λ_=>True) (fF:=λ_=>168) (fA:=λ_=>[.slice 2 0 1 1 4,.int .i64 1,.func (.func 169) [] [.ptr 3 0]]) (fH:=λ_=>ceH e.cells 0) (fR:=λ_=>.bool b) (fO:=λ_=>ceH e.cells n) λ_ _=>hI
 have hO:=Z2v hO1 hZ
 have q1:Z02 Y00 (Z3B (orcI (λ_:Unit=>True) (λ_=>168) (λ_=>[.slice 2 0 1 1 4,.int .i64 1,.func (.func 169) [] [.ptr 3 0]]) (λ_=>ceH e.cells 0) (λ_=>.bool b) (λ_=>ceH e.cells n)) (Z9K (ceF e.cells (Z0j e)))) (ceH e.cells 0) 168 [.slice 2 0 1 1 4,.int .i64 1,.func (.func 169) [] [.ptr 3 0]]=some (.bool b,ceH e.cells n) :=
  callOr1 (by kernel_rfl) (ZkJ (λ_ _ _ _ _ _ _=>⟨rfl,rfl⟩) (by kernel_rfl) () trivial rfl rfl rfl)
 have q2:Z02 Y00 (Z3B (orcI (λ_:Unit=>True) (λ_=>168) (λ_=>[.slice 2 0 1 1 4,.int .i64 1,.func (.func 169) [] [.ptr 3 0]]) (λ_=>ceH e.cells 0) (λ_=>.bool b) (λ_=>ceH e.cells n)) (Z9K (ceF e.cells (Z0j e)))) (ceH e.cells n) 168 [.slice 2 0 1 1 4,.int .i64 1,.func (.func 170) [] []]=some (.bool (Z0j e),ceH e.cells n):=by
  refine Zak (by kernel_rfl) (Z7B λ_ _ _ h=>?_) (Zaj (fa:=[.rs 1 4 e.cells,.int .i64 1,.func (.func 170) [] []]) (by kernel_rfl) ?_ ?_)
  ·simp at h
  ·obtain⟨op,num,name,kids⟩:=e;rfl
  ·unfold ceF;rw[if_pos ⟨rfl,rfl⟩]
 generalize Z3B (orcI (λ_:Unit=>True) (λ_=>168) (λ_=>[.slice 2 0 1 1 4,.int .i64 1,.func (.func 169) [] [.ptr 3 0]]) (λ_=>ceH e.cells 0) (λ_=>.bool b) (λ_=>ceH e.cells n)) (Z9K (ceF e.cells (Z0j e)))=O at *
 clear hI hr hZ hO1 hn hb
 generalize Z0a e=sz at *
 generalize Z2A e=dp at *
 generalize Z0j e=r at *
 obtain⟨op,num,name,kids⟩:=e
 simp only[Ex.cells]at *
 refine Z32 (λg=>Nat.beq g 168) 2 follows Z07 hO Tryz.func135 rfl ?_
 repeat' ((conv=>whnf);first|refine exI q1 ?_|refine exI q2 ?_|refine stp ?_|with_reducible apply Z01<;>intro h)
 all_goals (conv=>whnf)
 all_goals (show AV.int _ _=AV.int _ _;congr 1;clear q1 q2 hO;subst_vars)
 all_goals (by_cases hq:2000<sz\/32<dp<;>cases r<;>simp_all)
end
section
theorem Z87{e:Ex}(h:Z0K e=0):Z0j e=true:=by
 unfold Z0K at h
 split at h
 ·cases h
 · split at h
   ·assumption
   ·cases h
theorem uB:Y00.underlying 186=some (.pointer 5):=by kernel_rfl
theorem cB:Y00.cellsOf 5=1:=by kernel_rfl
theorem Zje{H:Z00}{b f:Nat}{s:List UInt8}(h0:s≠[])(hs:s.length<=1099511627776)(hH:H[b]? = some ⟨true,f,0,.cells (byt s) tB⟩):Zdy Y00 186 (.ptr b 0) s.length H=some (.str s,(Z3T b f H).set b ⟨false,f,0,.cells [] 0⟩):=ZlC uB cB hH h0 hs
theorem ZdQ {orc : Orc} {ρ : Operand -> Option AV} {o : Oper} {H : Z00} {x y : Operand} {b f : Nat} {s : List UInt8} (ho : o.op = .call { callee := .builtin .unsafeString, args := #[x, y], argTypes := #[186, 3] }) (hx : ρ x = some (.ptr b 0)) (hy : ρ y = some (.int .i64 (s.length : Int)))
  (h0:s≠[]) (hs:s.length<=1099511627776) (hH:H[b]? = some ⟨true,f,0,.cells (byt s) tB⟩):aop Y00 orc ρ o H=some (.str s,(Z3T b f H).set b ⟨false,f,0,.cells [] 0⟩):=by
 have h1:=Zje h0 hs hH
 have h2:Z0s Y00 ρ H o=none:=by simp[Z0s,Z2G,ho]
 have h3:Z9l Y00 ρ H o=Zdy Y00 186 (.ptr b 0) s.length H:=by
  simp only[Z9l,ho,hx,hy]
 unfold aop
 simp only[ho,callee,h2,h3,h1]
def isX(g:Nat):Bool:=!(Nat.beq g 85)
theorem ZkB(e:Ex)(hok:okE e)(hg:rgE e)(hs:Z0a e<=1048576)(hb:Z0K e=0->(wrE e).length<=1073741824):ValOK Y00 rgl 83 [.agg e.cells] (.tuple [.str (if Z0K e=0 then wrE e else []),.int .i64 (Z0K e)]):=by
 have hch:=Zg0 e hok hs
 by_cases hc:Z0K e=0
 · have g:Zkn e:=⟨Z87 hc,hg⟩
   rw[if_pos hc]
   rw[hc]at hch⊢
   obtain⟨O,hO,⟨p1,-⟩,⟨p2,-⟩⟩:=Z5E (P:=Y00) (gl:=rgl) [wmE.fam] [{ I:=Unit,f:=135,G:=(λ_=>True),A:=(λ_=>[.agg e.cells]),R:=(λ_=>.int .i64 0),body:=(by kernel_rfl),inj:=(λ_ _ _ _ _=>rfl),ok:=(λ_ _=>⟨Z1l e,hch⟩) }] rfl
   have q2:∀H,Z02 Y00 O H 135 [.agg e.cells]=some (.int .i64 0,H):=p2 () trivial
   obtain⟨w,hwe⟩:∃w,wrE e=w:=⟨_,rfl⟩
   have hwn:w≠[]:=by rw[<- hwe];exact ZdI g.1
   have hb:=hb hc
   have q1:=λ{b fb:Nat} {H:Z00} {rest:List AV} {d:Int} hb y1 y2 y3 y4=>e0 p1 g hwe (b:=b) (fb:=fb) (H:=H) (rest:=rest) (d:=d) hb y1 y2 y3 y4
   rw[hwe]at hb⊢
   clear p1 p2 hch hc hwe g hok hg hs
   have hlw:w.length<=1099511627776:=by omega
   obtain⟨w0,w1,rfl⟩:∃c t,w=c::t:=by cases w with|nil=>exact absurd rfl hwn|cons c t=>exact⟨c,t,rfl⟩
   obtain⟨eo,en,es_,ek⟩:=e
   simp only[Ex.cells]at *
   refine Z32 isX 1 follows Z07 hO Tryz.func83 rfl ?_
   repeat' ((conv=>whnf);first|with_reducible refine exI (q2 _) ?_|(refine Znr (q1 ?_ rfl rfl rfl rfl) ?_;(exact leS))|refine exI (ZdQ (s:=w0::w1) rfl rfl rfl hwn hlw rfl) ?_|refine stp ?_|with_reducible apply Z01<;>intro h)
   all_goals rfl
 · rw[if_neg hc]
   obtain⟨O,hO,p2,-⟩:=fams (P:=Y00) (gl:=rgl) [{ I:=Unit,f:=135,G:=(λ_=>True),A:=(λ_=>[.agg e.cells]),R:=(λ_=>.int .i64 (Z0K e)),body:=(by kernel_rfl),inj:=(λ_ _ _ _ _=>rfl),ok:=(λ_ _=>⟨Z1l e,hch⟩) }] rfl
   have q2:∀H,Z02 Y00 O H 135 [.agg e.cells]=some (.int .i64 (Z0K e),H):=p2 () trivial
   clear p2 hch
   generalize Z0K e=c at *
   have e1:(c != 0)=true:=by simpa using hc
   obtain⟨eo,en,es_,ek⟩:=e
   simp only[Ex.cells]at *
   refine Z05 follows Z07 hO Tryz.func83 rfl ?_
   repeat' ((conv=>whnf);first|with_reducible refine exI (q2 _) ?_|refine stp ?_|with_reducible apply Z01<;>intro h)
   all_goals rfl
end
end Go.Proofs.YthbimonbnaodkaaGreatDoor.lex
section
namespace Go.Proofs.YthbimonbnaodkaaGreatDoor.lex
open Go.Abs Go.RowKit Go.Sort
theorem ZkH:∀(k u:Nat),u<10 ^ (k+1)->u<=9223372036854775807->ValOK Y00 runLives.gl 86 [.int .i64 u] (.str (Z3V u)):=by
 intro k
 have b8:∀m:Nat,m<10->IntKind.i64.wrap (48+(m:Int))=((48+m:Nat):Int)/\IntKind.u8.wrap ((48+m:Nat):Int)=((UInt8.ofNat (48+m)).toNat:Int):=by
  intro m hm
  have h1:(48+(m:Int))=((48+m:Nat):Int):=by omega
  refine⟨by rw[h1];exact Z2r (by omega) (by omega),?_⟩
  have h2:(UInt8.ofNat (48+m)).toNat=48+m:=by rw[UInt8.toNat_ofNat'];omega
  rw[h2]
  simp[IntKind.wrap,IntKind.bits,IntKind.signed];omega
 induction k with
 |zero =>
  intro u hu hm
  have hu':u<10:=by omega
  have e1:decide ((u:Int)<10)=true:=by simp;omega
  obtain⟨w1,w2⟩:=b8 u hu'
  have hcv:tk 1 (List.drop 0 [AV.int .u8 (IntKind.u8.wrap ((48+u:Nat):Int))])=some (byt [UInt8.ofNat (48+u)]):=by rw[w2];rfl
  rw[Z4V hu']
  refine Z05 follows Z07 Z06 Tryz.func86 rfl ?_
  repeat' ((conv=>whnf);first|(with_reducible refine exW w1 ?_)|refine exI (Zdh _ rfl rfl ZnG rfl hcv) ?_|refine exI (Zah _ rfl rfl ZnG rfl hcv) ?_|refine stp ?_|with_reducible apply Z01<;>intro h)
  all_goals rfl
 |succ k ih =>
  intro u hu hm
  by_cases hu':u<10
  ·exact ih u (Y0N hu' (by rw[Nat.pow_succ];have:=Nat.pow_pos (n:=k) (show 0<10 by omega);omega)) hm
  · have e1:decide ((u:Int)<10)=false:=by simp;omega
    have hq:=ih (u / 10) (by rw[Nat.pow_succ]at hu;omega) (by omega)
    obtain⟨w1,w2⟩:=b8 (u % 10) (by omega)
    have hcv:tk 1 (List.drop 0 [AV.int .u8 (IntKind.u8.wrap ((48+u % 10:Nat):Int))])=some (byt [UInt8.ofNat (48+u % 10)]):=by rw[w2];rfl
    have w3:IntKind.i64.wrap (Int.tdiv (u:Int) 10)=((u / 10:Nat):Int):=by
     have:Int.tdiv (u:Int) 10=((u / 10:Nat):Int):=rfl
     rw[this];exact Z2r (by omega) (by omega)
    have w4:Int.tmod (u:Int) 10=((u % 10:Nat):Int):=rfl
    have w5:IntKind.i64.wrap (Int.tmod (u:Int) 10)=((u % 10:Nat):Int):=by rw[w4];exact Z2r (by omega) (by omega)
    rw[Zf3 hu']
    obtain⟨O,hO,q1,-⟩:=fams (P:=Y00) (gl:=runLives.gl) [{ I:=Unit,f:=86,G:=(λ_=>True),A:=(λ_=>[.int .i64 ((u / 10:Nat):Int)]),R:=(λ_=>.str (Z3V (u / 10))),body:=(by kernel_rfl),inj:=(λ_ _ _ _ _=>rfl),ok:=(λ_ _=>⟨rfl,hq⟩) }] rfl
    have r1:∀H,Z02 Y00 O H 86 [.int .i64 ((u / 10:Nat):Int)]=some (.str (Z3V (u / 10)),H):=q1 () trivial
    clear q1 ih hq
    have hD:(Z3V (u / 10)).length<=20:=Zaf 19 (u / 10) (by omega)
    have hD2:(Z3V (u / 10)).length+[UInt8.ofNat (48+u % 10)].length<=9223372036854775807:=by simp only[Y0b,Y0G];omega
    clear hD
    generalize Z3V (u / 10)=D at *
    generalize u / 10=q at *
    generalize u % 10=m at *
    refine Z05 follows Z07 hO Tryz.func86 rfl ?_
    repeat' ((conv=>whnf);first|(with_reducible refine exW w1 ?_)|(with_reducible refine Y01 hD2 ?_)|(refine Y01 (show (10:Int)≠0 by decide) ?_;rw[w3])|(refine Y01 (show (10:Int)≠0 by decide) ?_;rw[w4])|with_reducible refine exI (r1 _) ?_|refine exI (Zdh _ rfl rfl ZnG rfl hcv) ?_|refine exI (Zah _ rfl rfl ZnG rfl hcv) ?_|refine stp ?_|with_reducible apply Z01<;>intro h)
    conv=>whnf
    all_goals rfl
theorem Zf2(n:Int)(h0:0<=n)(h1:rgI n):ValOK Y00 runLives.gl 86 [.int .i64 n] (.str (Z1W n)):=by
 obtain⟨u,rfl⟩:=Int.eq_ofNat_of_zero_le h0
 have h2:u<=9223372036854775807:=by have:=h1.2;omega
 exact ZkH 19 u (by omega) h2
end Go.Proofs.YthbimonbnaodkaaGreatDoor.lex
end
namespace Go.Proofs.YthbimonbnaodkaaGreatDoor.lex
open Go.Abs Go.RowKit
section
variable {gl:Z0o}
theorem mkB{orc:Orc}{H:Z00}{n:Nat}(hn:n<=2097152):Z02 Y00 orc H 197 ([]++[AV.int .i64 (IntKind.i64.wrap (IntKind.i64.wrap (2*Int.ofNat 0)+(n:Int)))]++[])=some (.slice H.length 0 n n 1,H++[⟨true,H.length,0,.cells [] 5⟩]):=by
 have hb:Z0l Y00 197=false:=by kernel_rfl
 have e:IntKind.i64.wrap (IntKind.i64.wrap (2*Int.ofNat 0)+(n:Int))=(n:Int):=by
  have:IntKind.i64.wrap (2*Int.ofNat 0)=0:=by decide
  rw[this,Int.zero_add];exact Z2r (by omega) (by omega)
 rw[e]
 have h3:ZbH Y00 197=some 5:=by kernel_rfl
 refine ZnU hb ?_ ?_ h3 (by omega)
 ·exact λargs=>(Z98 h3 args).1
 ·exact λargs=>(Z98 h3 args).2.1
theorem Zo1(t u:List UInt8)(ts:List (List UInt8))(hb:(t::u::ts).flatten.length<=1048576)(hl0:(t::u::ts).length<=1048576)(hne:(t::u::ts).flatten≠[]):ValOK Y00 gl 79 [.rs (t::u::ts).length 1 ((t::u::ts).map AV.str),.str []] (.str (t::u::ts).flatten):=by
 refine Z32 (λg=>false) 3 follows Z07 Z06 Tryz.func79 rfl ?_
 generalize hl:t::u::ts=l at *
 have hl2:2<=l.length:=by rw[<- hl];simp
 have hF1:1<=l.flatten.length:=by cases hh:l.flatten with|nil=>exact absurd hh hne|cons a b=>simp
 have d0:((l.length:Int)==0)=false:=beq_eq_false_iff_ne.2 (by omega)
 have d1:((l.length:Int)==1)=false:=beq_eq_false_iff_ne.2 (by omega)
 repeat' ((conv=>whnf);first|refine stp ?_|with_reducible apply Z01<;>intro h)
 conv=>whnf
 refine⟨Nat,(λi=>i<=l.length),(λi=>[(0,.rs l.length 1 (l.map AV.str)),(1,.str []),(5,.int .i64 ((l.take i).flatten.length:Nat)),(39,.rs l.length 1 (l.map AV.str)),(40,.int .i64 l.length),(41,.int .i64 (i:Nat))]),(λ_=>[]),(λi=>l.length-i),⟨0,Y09 _,?_⟩,?_⟩
 · refine Y0j rfl ?_
   exact wks
 intro i h1
 dsimp only at h1⊢
 by_cases hlt:i<l.length
 · have e1:decide ((i:Int)<(l.length:Int))=true:=by simpa using hlt
   have hx:=Z1Q AV.str l i hlt (off:=i*1) (by omega)
   have hft:=Z5D l i hlt
   have hfl:=Zia l i hlt
   have hft2:(l.take (i+1)).flatten.length=(l.take i).flatten.length+l[i].length:=by rw[hft,Y02]
   generalize l[i]=x at *
   generalize (l.take i).flatten.length=n at *
   have e2:decide ((x.length:Int)>9223372036854775807-(n:Int))=false:=by simp;omega
   repeat' ((conv=>whnf);first|refine exI hx ?_|refine stp ?_|with_reducible apply Z01<;>intro h)
   conv=>whnf
   refine⟨i+1,hlt,by show l.length-(i+1)<l.length-i;omega,Y0j rfl ?_⟩
   (try dsimp only)
   rw[hft2]
   exact wks
 · have e1:decide ((i:Int)<(l.length:Int))=false:=by simpa using hlt
   have hi2:i=l.length:=by omega
   subst hi2
   rw[Y0c]
   obtain⟨n,hn⟩:∃n,l.flatten.length=n:=⟨_,rfl⟩
   rw[hn]at hb hF1⊢
   have hn2:n<=2097152:=by omega
   have hx0:tk 1 ((l.map AV.str).drop (0*1))=some [.str t]:=by rw[<- hl];rfl
   have e2:decide (IntKind.i64.wrap (Int.ofNat 0-0)<(n:Int))=true:=by
    have:IntKind.i64.wrap (Int.ofNat 0-0)=0:=by decide
    rw[this];simp;omega
   have hlr:l.map AV.str=AV.str t::(u::ts).map AV.str:=by rw[<- hl];rfl
   have hlen:(u::ts).length=l.length-1:=by rw[<- hl];rfl
   have e63:AV.rs (l.length-1) 1 (List.take ((l.length-1)*1) (List.drop (1*1) (List.map AV.str l)))=AV.rs (l.length-1) 1 ((u::ts).map AV.str):=by
    rw[hlr];congr 1
    show List.take ((l.length-1)*1) ((u::ts).map AV.str)=_
    rw[List.take_of_length_le];rw[List.length_map,hlen];omega
   have hjt:l.flatten=t++(u::ts).flatten:=by rw[<- hl];rfl
   have htb:t.length<=n:=by rw[<- hn,hjt,Y02];omega
   have hfin:∀j,l.flatten=(t++((u::ts).take j).flatten)++((u::ts).drop j).flatten:=λj=>by
    rw[hjt,Y0I]
    congr 1
    have:=congrArg List.flatten (List.take_append_drop j (u::ts))
    rw[Y0H]at this
    exact this.symm
   have hstart:t++((u::ts).take 0).flatten=t:=by simp
   have hround:∀j (hj:j<(u::ts).length),t++((u::ts).take (j+1)).flatten=(t++((u::ts).take j).flatten)++(u::ts)[j]:=λj hj=>by rw[Z5D _ _ hj,Y0I]
   have hend:t++((u::ts).take (l.length-1)).flatten=l.flatten:=by rw[<- hlen,Y0c,hjt]
   have hsz:∀j,(t++((u::ts).take j).flatten).length<=n:=λj=>by
    have:=congrArg List.length (hfin j)
    rw[Y02,hn]at this
    omega
   by_cases ht:t=[]
   · have hb0:byt t=[]:=by rw[ht];rfl
     have htl:t.length=0:=by rw[ht];rfl
     rw[ht]at hx0
     repeat' ((conv=>whnf);first|refine exI hx0 ?_|refine exI (mkB hn2) ?_|refine exI (Z2q apB rfl) ?_|refine stp ?_|with_reducible apply Z01<;>intro h)
     conv=>whnf
     refine⟨Nat,(λj=>j<=l.length-1),(λj=>[(1,.str []),(8,.ptr 0 0),(63,.rs (l.length-1) 1 ((u::ts).map AV.str)),(64,.int .i64 (l.length-1:Nat)),(65,.int .i64 (j:Nat))]),(λj=>[⟨true,0,0,.cells [.ptr 0 0,.slice 1 0 (t++((u::ts).take j).flatten).length (t++((u::ts).take j).flatten).length 1] 116⟩,⟨true,1,0,.cells (byt (t++((u::ts).take j).flatten)) 5⟩]),(λj=>l.length-1-j),⟨0,Y09 _,Y0a [0,1] rfl ?_ ⟨⟨rfl,rfl,rfl,rfl,Y0k ⟨Y04 rfl rfl,Wk.slice rfl rfl ?_ (Y06 _) ?_ rfl,trivial⟩⟩,⟨rfl,rfl,rfl,rfl,Y0m (rest:=[]) (by rw[hstart,hb0];rfl) (Z18 _ _)⟩,trivial⟩ rfl⟩,?_⟩
     · refine Y01 (Y08 rfl) ?_
       refine Y01 (Y04 rfl rfl) ?_
       refine Y01 (Wk.eq e63 rfl) ?_
       refine Y01 (Y03 rfl) ?_
       exact⟨Y03 rfl,trivial⟩
     ·rw[hstart];first|(rw[htl];done)|(rw[htl];rfl)|(show 0+t.length=t.length;omega)
     ·rw[hstart];first|(rw[htl];exact Y09 _)|(show t.length<=0+t.length;omega)
     intro j j1
     dsimp only at j1⊢
     by_cases hjlt:j<l.length-1
     · have f1:decide ((j:Int)<((l.length-1:Nat):Int))=true:=by simp;omega
       have hjr:j<(u::ts).length:=by rw[hlen];exact hjlt
       have hx:=Z1Q AV.str (u::ts) j hjr (off:=j*1) (by omega)
       have hrd:=hround j hjr
       have hz1:=hsz (j+1)
       rw[hrd,Y02]at hz1
       generalize (u::ts)[j]=x at *
       generalize hacc:t++((u::ts).take j).flatten=acc at *
       by_cases hxe:x=[]
       · subst hxe
         rw[Y07]at hrd
         repeat' ((conv=>whnf);first|refine exI hx ?_|refine exI (Z2q apB rfl) ?_|refine stp ?_|with_reducible apply Z01<;>intro h)
         conv=>whnf
         refine⟨j+1,hjlt,by show l.length-1-(j+1)<l.length-1-j;omega,?_⟩
         (try dsimp only)
         rw[hrd]
         refine Y0a [0,1] rfl ?_ ⟨⟨rfl,rfl,rfl,rfl,Y0k ⟨Y04 rfl rfl,Wk.slice rfl rfl rfl (Y06 _) (Y06 _) rfl,trivial⟩⟩,⟨rfl,rfl,rfl,rfl,Y0m (rest:=[]) (by rw[Y07]) (Z18 _ _)⟩,trivial⟩ rfl
         refine Y01 (Y08 rfl) ?_
         refine Y01 (Y04 rfl rfl) ?_
         refine Y01 (Y08 rfl) ?_
         refine Y01 (Y03 rfl) ?_
         exact⟨Y03 rfl,trivial⟩
       · have hxl:x.length≠0:=λe=>hxe (Y0s e)
         repeat' ((conv=>whnf);first|refine exI hx ?_|refine exI (Z2q apB rfl) ?_|refine exI (Z1m apB (xs:=byt x) (n:=x.length) (cs:=byt acc) rfl rfl (Z4U (by simp[ABody.len])) ((Z4g acc).trans (Nat.mul_one _).symm) (Z89 x) hxl ⟨by omega,by omega⟩) ?_|refine stp ?_|with_reducible apply Z01<;>intro h)
         conv=>whnf
         refine⟨j+1,hjlt,by show l.length-1-(j+1)<l.length-1-j;omega,?_⟩
         (try dsimp only)
         rw[hrd]
         refine Y0a [0,2] rfl ?_ ⟨⟨rfl,rfl,rfl,rfl,Y0k ⟨Y04 rfl rfl,Wk.slice rfl rfl (by simp) (Y06 _) (by simp) rfl,trivial⟩⟩,⟨rfl,rfl,rfl,rfl,Y0m (rest:=[]) (by rw[Y07,Z8a]) (Z18 _ _)⟩,trivial⟩ rfl
         refine Y01 (Y08 rfl) ?_
         refine Y01 (Y04 rfl rfl) ?_
         refine Y01 (Y08 rfl) ?_
         refine Y01 (Y03 rfl) ?_
         exact⟨Y03 rfl,trivial⟩
     · have f1:decide ((j:Int)<((l.length-1:Nat):Int))=false:=by simp;omega
       have hj2:j=l.length-1:=by omega
       subst hj2
       rw[hend]
       obtain⟨c,r,hcr⟩:∃c r,l.flatten=c::r:=by cases hh:l.flatten with|nil=>exact absurd hh hne|cons c r=>exact⟨c,r,rfl⟩
       rw[hcr]at hn hne⊢
       repeat' ((conv=>whnf);first|refine exI (ZdQ (s:=c::r) rfl rfl rfl hne (by omega) rfl) ?_|refine exI (Zje (s:=c::r) hne (by omega) rfl) ?_|refine stp ?_|with_reducible apply Z01<;>intro h)
       all_goals rfl
   · have htl:t.length≠0:=λe=>ht (Y0s e)
     repeat' ((conv=>whnf);first|refine exI hx0 ?_|refine exI (mkB hn2) ?_|refine exI (Z1m apB (xs:=byt t) (n:=t.length) (cs:=[]) rfl rfl (Z4U (by simp[ABody.len])) rfl (Z89 t) htl ⟨by show 0+t.length<=1099511627776;omega,by show (0+t.length)*1<=70368744177664;omega⟩) ?_|refine stp ?_|with_reducible apply Z01<;>intro h)
     conv=>whnf
     refine⟨Nat,(λj=>j<=l.length-1),(λj=>[(1,.str []),(8,.ptr 0 0),(63,.rs (l.length-1) 1 ((u::ts).map AV.str)),(64,.int .i64 (l.length-1:Nat)),(65,.int .i64 (j:Nat))]),(λj=>[⟨true,0,0,.cells [.ptr 0 0,.slice 1 0 (t++((u::ts).take j).flatten).length (t++((u::ts).take j).flatten).length 1] 116⟩,⟨true,1,0,.cells (byt (t++((u::ts).take j).flatten)) 5⟩]),(λj=>l.length-1-j),⟨0,Y09 _,Y0a [0,2] rfl ?_ ⟨⟨rfl,rfl,rfl,rfl,Y0k ⟨Y04 rfl rfl,Wk.slice rfl rfl ?_ (Y06 _) ?_ rfl,trivial⟩⟩,⟨rfl,rfl,rfl,rfl,Y0m (rest:=[]) (by rw[hstart,Y07];rfl) (Z18 _ _)⟩,trivial⟩ rfl⟩,?_⟩
     · refine Y01 (Y08 rfl) ?_
       refine Y01 (Y04 rfl rfl) ?_
       refine Y01 (Wk.eq e63 rfl) ?_
       refine Y01 (Y03 rfl) ?_
       exact⟨Y03 rfl,trivial⟩
     ·rw[hstart];first|(rw[htl];done)|(rw[htl];rfl)|(show 0+t.length=t.length;omega)
     ·rw[hstart];first|(rw[htl];exact Y09 _)|(show t.length<=0+t.length;omega)
     intro j j1
     dsimp only at j1⊢
     by_cases hjlt:j<l.length-1
     · have f1:decide ((j:Int)<((l.length-1:Nat):Int))=true:=by simp;omega
       have hjr:j<(u::ts).length:=by rw[hlen];exact hjlt
       have hx:=Z1Q AV.str (u::ts) j hjr (off:=j*1) (by omega)
       have hrd:=hround j hjr
       have hz1:=hsz (j+1)
       rw[hrd,Y02]at hz1
       generalize (u::ts)[j]=x at *
       generalize hacc:t++((u::ts).take j).flatten=acc at *
       by_cases hxe:x=[]
       · subst hxe
         rw[Y07]at hrd
         repeat' ((conv=>whnf);first|refine exI hx ?_|refine exI (Z2q apB rfl) ?_|refine stp ?_|with_reducible apply Z01<;>intro h)
         conv=>whnf
         refine⟨j+1,hjlt,by show l.length-1-(j+1)<l.length-1-j;omega,?_⟩
         (try dsimp only)
         rw[hrd]
         refine Y0a [0,1] rfl ?_ ⟨⟨rfl,rfl,rfl,rfl,Y0k ⟨Y04 rfl rfl,Wk.slice rfl rfl rfl (Y06 _) (Y06 _) rfl,trivial⟩⟩,⟨rfl,rfl,rfl,rfl,Y0m (rest:=[]) (by rw[Y07]) (Z18 _ _)⟩,trivial⟩ rfl
         refine Y01 (Y08 rfl) ?_
         refine Y01 (Y04 rfl rfl) ?_
         refine Y01 (Y08 rfl) ?_
         refine Y01 (Y03 rfl) ?_
         exact⟨Y03 rfl,trivial⟩
       · have hxl:x.length≠0:=λe=>hxe (Y0s e)
         repeat' ((conv=>whnf);first|refine exI hx ?_|refine exI (Z2q apB rfl) ?_|refine exI (Z1m apB (xs:=byt x) (n:=x.length) (cs:=byt acc) rfl rfl (Z4U (by simp[ABody.len])) ((Z4g acc).trans (Nat.mul_one _).symm) (Z89 x) hxl ⟨by omega,by omega⟩) ?_|refine stp ?_|with_reducible apply Z01<;>intro h)
         conv=>whnf
         refine⟨j+1,hjlt,by show l.length-1-(j+1)<l.length-1-j;omega,?_⟩
         (try dsimp only)
         rw[hrd]
         refine Y0a [0,2] rfl ?_ ⟨⟨rfl,rfl,rfl,rfl,Y0k ⟨Y04 rfl rfl,Wk.slice rfl rfl (by simp) (Y06 _) (by simp) rfl,trivial⟩⟩,⟨rfl,rfl,rfl,rfl,Y0m (rest:=[]) (by rw[Y07,Z8a]) (Z18 _ _)⟩,trivial⟩ rfl
         refine Y01 (Y08 rfl) ?_
         refine Y01 (Y04 rfl rfl) ?_
         refine Y01 (Y08 rfl) ?_
         refine Y01 (Y03 rfl) ?_
         exact⟨Y03 rfl,trivial⟩
     · have f1:decide ((j:Int)<((l.length-1:Nat):Int))=false:=by simp;omega
       have hj2:j=l.length-1:=by omega
       subst hj2
       rw[hend]
       obtain⟨c,r,hcr⟩:∃c r,l.flatten=c::r:=by cases hh:l.flatten with|nil=>exact absurd hh hne|cons c r=>exact⟨c,r,rfl⟩
       rw[hcr]at hn hne⊢
       repeat' ((conv=>whnf);first|refine exI (ZdQ (s:=c::r) rfl rfl rfl hne (by omega) rfl) ?_|refine exI (Zje (s:=c::r) hne (by omega) rfl) ?_|refine stp ?_|with_reducible apply Z01<;>intro h)
       all_goals rfl
theorem Zpb(l:List (List UInt8))(hb:l.flatten.length<=1048576)(hl:l.length<=1048576)(hne:l.flatten≠[]):ValOK Y00 gl 79 [.rs l.length 1 (l.map AV.str),.str []] (.str l.flatten):=by
 match l with
 |[]=>exact absurd rfl hne
 |[t] =>
  rw[show [t].flatten=t by simp]
  refine Z32 (λg=>false) 3 follows Z07 Z06 Tryz.func79 rfl ?_
  repeat' ((conv=>whnf);first|refine stp ?_|with_reducible apply Z01<;>intro h)
  all_goals rfl
 |t::u::ts=>exact Zo1 t u ts hb hl hne
end
end Go.Proofs.YthbimonbnaodkaaGreatDoor.lex
section
namespace Go.Abs
open Go.RowKit
def ZfL(fs:List Nat)(H:Z00):Z00:=kil (λ_ o=>!mem o.fam fs) 0 H
def WkZ(fs:List Nat)(H:Z00)(m:List Nat)(u u2:AV):Prop:=Wk m u u2\/frz (ZfL fs H) 30 u=some u2
def BodyGeZ(fs:List Nat)(H:Z00)(m:List Nat):ABody->ABody->Prop
 | .cells cs ty,.cells cs2 ty2=>ty=ty2/\cs2.length<=cs.length/\∀(i:Nat)(c2:AV),cs2[i]? = some c2->∃c,cs[i]? = some c/\WkZ fs H m c c2
 |b,b2=>BodyGe m b b2
theorem WkZ.wk{fs:List Nat}{H:Z00}{m:List Nat}{u u2:AV}(h:Wk m u u2):WkZ fs H m u u2:=.inl h
theorem WkZ.fz{fs:List Nat}{H:Z00}{m:List Nat}{u u2:AV}(h:frz (ZfL fs H) 30 u=some u2):WkZ fs H m u u2:=.inr h
theorem BodyGe.z{fs:List Nat}{H:Z00}{m:List Nat}{b b2:ABody}(h:BodyGe m b b2):BodyGeZ fs H m b b2:=by
 unfold BodyGeZ
 split
 · obtain⟨h1,h2,h3⟩:=h
   exact⟨h1,h2,λi c2 hc=>let ⟨c,e1,e2⟩:=h3 i c2 hc;⟨c,e1,.inl e2⟩⟩
 ·exact h
theorem BodyGeZ.snoc{fs:List Nat}{H:Z00}{m:List Nat}{cs:List AV}{u u2:AV}{ty:TypeId}(h:refsL cs []=[])(hu:WkZ fs H m u u2):BodyGeZ fs H m (.cells (cs++[u]) ty) (.cells (cs++[u2]) ty):=by
 refine⟨rfl,by simp,λi c2 hc=>?_⟩
 by_cases hi:i<cs.length
 · rw[Y0h hi]at hc⊢
   obtain⟨_,_,h3⟩:=Y0m (m:=m) (cs:=cs) (rest:=[]) (ty:=ty) (by simp) h
   obtain⟨c,e1,e2⟩:=h3 i c2 hc
   exact⟨c,e1,.inl e2⟩
 · rw[Y0q (by omega)]at hc⊢
   obtain⟨n,hn⟩:∃n,i-cs.length=n:=⟨_,rfl⟩
   rw[hn]at hc⊢
   cases n with
   |zero=>simp only[Y0O,Option.some.injEq]at hc;subst hc;exact⟨u,rfl,hu⟩
   |succ n=>simp at hc
end Go.Abs
end
section
namespace Go.Abs
open Go.RowKit
def sgE(k d:Nat)(b:Nat):Nat:=if b<k then b else d+(b-k)
def Z8G(k:Nat)(σ : Nat->Nat)(Hs:Z00):Nat->Z00->Z00
 |_,[]=>[]
 |i,o::H=>(if Nat.blt i k then (match Hs[i]? with
  |some o'=>{ o with alive:=o'.alive,body:=Z36 σ o'.body }
  |none=>o) else o.dead)::Z8G k σ Hs (i+1) H
theorem ZdX (k : Nat) (σ : Nat -> Nat) (Hs : Z00) : ∀ (H : Z00) (i b : Nat), (Z8G k σ Hs i H)[b]? = (H[b]?).map fun o => if Nat.blt (i + b) k then (match Hs[i + b]? with
  |some o'=>{ o with alive:=o'.alive,body:=Z36 σ o'.body }
  |none=>o) else o.dead
 |[],i,b=>by simp[Z8G]
 |o::H,i,0=>by
  simp only[Z8G,Y0O,Y0g,Nat.add_zero]<;>rfl
 |o::H,i,b+1=>by
  simp only[Z8G,Y0C]
  rw[ZdX k σ Hs H (i+1) b,show i+1+b=i+(b+1) by omega]
theorem ZdW(k:Nat)(σ : Nat->Nat)(Hs:Z00):∀(H:Z00)(i:Nat),(Z8G k σ Hs i H).length=H.length
 |[],i=>rfl
 |o::H,i=>by simp only[Z8G,Y0b,ZdW k σ Hs H (i+1)]
def shE(σ : Nat->Nat):Z00->Z00
 |[]=>[]
 |o::H=>{ o with body:=Z36 σ o.body }::shE σ H
theorem ZgP(σ : Nat->Nat):∀(H:Z00)(b:Nat),(shE σ H)[b]? = (H[b]?).map λo=>{ o with body:=Z36 σ o.body }
 |[],b=>by simp[shE]
 |o::H,0=>rfl
 |o::H,b+1=>by simp only[shE,Y0C];exact ZgP σ H b
theorem ZcC(σ : Nat->Nat):∀H:Z00,(shE σ H).length=H.length
 |[]=>rfl
 |o::H=>by simp only[shE,Y0b,ZcC σ H]
theorem ZfN {P : Program} {gl : Z0o} {f k : Nat} {Hs Hs' : Z00} {args : List AV} {r : AV} (hM : Zcn P gl k f args Hs r Hs') (hk : k <= Hs.length) (hk' : k <= Hs'.length)
  (hg2:∀(i:Nat)(o:AObj),Hs'[i]? = some o->o.fam=i/\o.alive=true/\Z0J Hs'.length (Z3c o.body [])=true) (hs0:∀(i:Nat)(o:AObj),Hs[i]? = some o->o.alive=true/\o.fam=i)
  (hrk:Z0J Hs'.length (Z1o r [])=true) :
  Z10 P gl f args Hs (ren (sgE k Hs.length) r) (Z8G k (sgE k Hs.length) Hs' 0 Hs++shE (sgE k Hs.length) (Hs'.drop k)):=by
 intro sn ι W vargs hg hR hla
 refine (hM sn ι W vargs hg hR hla).mono ?_
 rintro e W' ⟨v,sn',ι',rfl,hv,hst⟩
 generalize hd:Hs.length=d at *
 let κ : Z0f:=λb=>if b<d then ι b else ι' (k+(b-d))
 have k1:∀b,b<d -> κ b = ι b:=λb hb=>if_pos hb
 have k2:∀b,d<=b -> κ b = ι' (k+(b-d)):=λb hb=>by show (if b<d then ι b else ι' (k+(b-d)))=_;rw[if_neg (by omega)]
 have hkeep:∀b p,b<k -> ι' b=some p -> ι b=some p:=λb p hb hp=>by
  obtain⟨q,hq⟩:=(hR.dom b).1 (by omega)
  have:=hst.keep b q hb hq
  rw[hp]at this;cases this;exact hq
 have hback:∀i,i<Hs'.length->∀p,ι' i=some p -> κ (sgE k d i)=some p:=λi hi p hp=>by
  unfold sgE
  by_cases hik:i<k
  ·rw[if_pos hik,k1 i (by omega)];exact hkeep i p hik hp
  ·rw[if_neg hik,k2 _ (by omega),show k+(d+(i-k)-d)=i by omega];exact hp
 have hlen:(Z8G k (sgE k d) Hs' 0 Hs).length=d:=by rw[ZdW,hd]
 have hget : ∀ (b : Nat) (o' : AObj) (p : Place), (Z8G k (sgE k d) Hs' 0 Hs ++ shE (sgE k d) (Hs'.drop k))[b]? = some o' -> κ b = some p ->
   (b<d /\ ι b=some p/\∃o,Hs[b]? = some o/\o'.fam=o.fam/\o'.sh=o.sh/\(o'.alive=true->∃x,b<k/\Hs'[b]? = some x/\o'.body=Z36 (sgE k d) x.body/\x.alive=true /\ ι' b=some p)) \/
   (d<=b /\ ι' (k+(b-d))=some p/\∃x,Hs'[k+(b-d)]? = some x/\o'={ x with body:=Z36 (sgE k d) x.body }):=by
  intro b o' p hb hp
  by_cases hlt:b<d
  · rw[Y0h (by omega)]at hb
    rw[k1 b hlt]at hp
    refine .inl ⟨hlt,hp,?_⟩
    rw[ZdX]at hb
    simp only[Y0p]at hb
    cases hx:Hs[b]? with
    |none=>rw[hx]at hb;cases hb
    |some o =>
     rw[hx]at hb
     simp only[Y0g,Option.some.injEq]at hb
     refine⟨o,rfl,?_⟩
     by_cases hbk:b<k
     · have hi':b<Hs'.length:=by omega
       simp only[Nat.blt_eq,hbk,Y05 hi',if_true]at hb
       subst hb
       exact⟨rfl,rfl,λh=>⟨Hs'[b],hbk,Y05 hi',rfl,h,hst.keep b p hbk hp⟩⟩
     · simp only[Nat.blt_eq,hbk,if_false]at hb
       subst hb
       exact⟨rfl,rfl,λh=>by simp[AObj.dead]at h⟩
  · rw[Y0q (by omega),hlen,ZgP,Y0L]at hb
    rw[k2 b (by omega)]at hp
    cases hx:Hs'[k+(b-d)]? with
    |none=>rw[hx]at hb;cases hb
    |some x =>
     rw[hx]at hb
     simp only[Y0g,Option.some.injEq]at hb
     exact .inr ⟨by omega,hp,x,rfl,hb.symm⟩
 have hR':R sn' κ (Z8G k (sgE k d) Hs' 0 Hs++shE (sgE k d) (Hs'.drop k)) W':=by
  refine⟨λb=>⟨λhb=>?_,λ⟨p,hp⟩=>?_⟩,λb p hp=>?_,λb o' p hb ha hp=>?_,λb b' o o' p p' hb hb' ha ha' hp hp' e=>?_,λa v hv=>?_,λb o' p hb hp e=>?_⟩
  · simp only[Y02,hlen,ZcC,Y0i]at hb
    by_cases hlt:b<d
    ·rw[k1 b hlt];exact (hR.dom b).1 (by omega)
    ·rw[k2 b (by omega)];exact (hst.rel.dom _).1 (by omega)
  · simp only[Y02,hlen,ZcC,Y0i]
    by_cases hlt:b<d
    ·omega
    · rw[k2 b (by omega)]at hp
      have:=(hst.rel.dom _).2 ⟨p,hp⟩;omega
  · by_cases hlt:b<d
    ·rw[k1 b hlt]at hp;exact Y0N (hR.blk b p hp) hst.size
    ·rw[k2 b (by omega)]at hp;exact hst.rel.blk _ p hp
  · rcases hget b o' p hb hp with ⟨b1,b2,o,b3,b4,b5,b6⟩|⟨b1,b2,x,b3,rfl⟩
    · obtain⟨x,c1,c2,c3,c4,c5⟩:=b6 ha
      rw[c3]
      exact Z8i x.body (Z3M x.body p (λy hy=>hback y (Z0N (hg2 b x c2).2.2 y hy)) (hst.rel.obj b x p c2 c4 c5))
    ·exact Z8i x.body (Z3M x.body p (λy hy=>hback y (Z0N (hg2 _ x b3).2.2 y hy)) (hst.rel.obj _ x p b3 (hg2 _ x b3).2.1 b2))
  · rcases hget b o p hb hp with ⟨b1,b2,x,b3,b4,b5,b6⟩|⟨b1,b2,x,b3,rfl⟩<;>rcases hget b' o' p' hb' hp' with ⟨c1,c2,y,c3,c4,c5,c6⟩|⟨c1,c2,y,c3,rfl⟩
    · rw[b4,b5,c4,c5]
      exact hR.sep b b' x y p p' b3 c3 (hs0 b x b3).1 (hs0 b' y c3).1 b2 c2 e
    · exfalso
      obtain⟨z,d1,d2,d3,d4,d5⟩:=b6 ha
      have:=(hst.rel.sep b _ z y p p' d2 c3 d4 (hg2 _ y c3).2.1 d5 c2 e).1
      rw[(hg2 b z d2).1,(hg2 _ y c3).1]at this;omega
    · exfalso
      obtain⟨z,d1,d2,d3,d4,d5⟩:=c6 ha'
      have:=(hst.rel.sep _ b' x z p p' b3 d2 (hg2 _ x b3).2.1 d4 b2 d5 e).1
      rw[(hg2 b' z d2).1,(hg2 _ x b3).1]at this;omega
    ·exact hst.rel.sep _ _ x y p p' b3 c3 (hg2 _ x b3).2.1 (hg2 _ y c3).2.1 b2 c2 e
  · obtain⟨h1,h2,h3⟩:=hst.rel.snap a v hv
    refine⟨h1,h2,λb o' p hb ha hp=>?_⟩
    rcases hget b o' p hb hp with ⟨b1,b2,o,b3,b4,b5,b6⟩|⟨b1,b2,x,b3,rfl⟩
    · obtain⟨x,c1,c2,c3,c4,c5⟩:=b6 ha
      exact h3 b x p c2 c4 c5
    ·exact h3 _ x p b3 (hg2 _ x b3).2.1 b2
  · rcases hget b o' p hb hp with ⟨b1,b2,o,b3,b4,b5,b6⟩|⟨b1,b2,x,b3,rfl⟩
    ·exact hR.shz b o p b3 b2 (by rw[<- b5];exact e)
    ·exact hst.rel.shz _ x p b3 b2 e
 refine⟨v,sn',κ,rfl,?_,hR',⟨hst.le,λb p hb=>?_⟩,λb p hp=>?_,hst.frame,hst.size,hst.os,hst.tape,hst.output,hst.sfresh,λb o hb=>?_⟩
 ·exact (Z4G r v).2 (Z1n r [] v (λy hy=>hback y (Z0N hrk y hy)) hv)
 ·rw[k1 b (by have:=(hR.dom b).2 ⟨p,hb⟩;omega)];exact hb
 · by_cases hlt:b<d
   ·rw[k1 b hlt]at hp;exact .inl hp
   · rw[k2 b (by omega)]at hp
     obtain⟨x,hx⟩:∃x,Hs'[k+(b-d)]? = some x:=⟨_,Y05 ((hst.rel.dom _).2 ⟨p,hp⟩)⟩
     rcases hst.fresh _ _ p hx (hg2 _ _ hx).2.1 hp with h|h
     ·exact .inr (.inl h)
     ·exact .inr (.inr h)
 · have hb':b<(Z8G k (sgE k d) Hs' 0 Hs).length:=by rw[hlen,<- hd];exact (Y0f.1 hb).1
   have hx:=Y05 hb'
   obtain⟨p,hp⟩:=hR.place hb
   have hbd:b<d:=by omega
   rcases hget b _ p (by rw[Y0h hb'];exact hx) (by rw[k1 b hbd];exact hp)with ⟨b1,b2,o2,b3,b4,b5,b6⟩|⟨b1,_⟩
   · rw[hb]at b3;cases b3
     exact⟨_,by rw[Y0h hb'];exact hx,b4,b5,λ_=>(hs0 b o hb).1⟩
   ·omega
end Go.Abs
end
section
namespace Go.Abs
open Go.RowKit
def sgS(m:List Nat)(d:Nat)(b:Nat):Nat:=if b<m.length then m.getD b 0 else d+(b-m.length)
def ZaN(m:List Nat)(σ : Nat->Nat)(Hs:Z00):Nat->Z00->Z00
 |_,[]=>[]
 |i,o::H=>(match Z0Q m i 0 with
  |some j=>match Hs[j]? with
   |some o'=>{ o with alive:=o'.alive,body:=Z36 σ o'.body }
   |none=>o
  |none=>o)::ZaN m σ Hs (i+1) H
theorem ZdS (m : List Nat) (σ : Nat -> Nat) (Hs : Z00) : ∀ (H : Z00) (i b : Nat), (ZaN m σ Hs i H)[b]? = (H[b]?).map fun o => match Z0Q m (i + b) 0 with
  |some j=>match Hs[j]? with
   |some o'=>{ o with alive:=o'.alive,body:=Z36 σ o'.body }
   |none=>o
  |none=>o
 |[],i,b=>by simp[ZaN]
 |o::H,i,0=>by
  simp only[ZaN,Y0O,Y0g,Nat.add_zero]<;>rfl
 |o::H,i,b+1=>by
  simp only[ZaN,Y0C]
  rw[ZdS m σ Hs H (i+1) b,show i+1+b=i+(b+1) by omega]
theorem ZdR(m:List Nat)(σ : Nat->Nat)(Hs:Z00):∀(H:Z00)(i:Nat),(ZaN m σ Hs i H).length=H.length
 |[],i=>rfl
 |o::H,i=>by simp only[ZaN,Y0b,ZdR m σ Hs H (i+1)]
def shS(σ : Nat->Nat):Nat->Z00->Z00
 |_,[]=>[]
 |n,o::H=>⟨o.alive,n,o.sh,Z36 σ o.body⟩::shS σ (n+1) H
theorem ZgO(σ : Nat->Nat):∀(H:Z00)(n b:Nat),(shS σ n H)[b]? = (H[b]?).map λo=>⟨o.alive,n+b,o.sh,Z36 σ o.body⟩
 |[],n,b=>by simp[shS]
 |o::H,n,0=>rfl
 |o::H,n,b+1=>by
  simp only[shS,Y0C]
  rw[ZgO σ H (n+1) b,show n+1+b=n+(b+1) by omega]
theorem ZcB(σ : Nat->Nat):∀(H:Z00)(n:Nat),(shS σ n H).length=H.length
 |[],n=>rfl
 |o::H,n=>by simp only[shS,Y0b,ZcB σ H (n+1)]
def Z7Y:Z00->List Nat
 |[]=>[]
 |o::H=>cond o.alive (o.fam::Z7Y H) (Z7Y H)
theorem Z7X:∀{H:Z00}{i:Nat}{o:AObj},H[i]? = some o->o.alive=true->mem o.fam (Z7Y H)=true
 |[],i,o,h,_=>by simp at h
 |x::H,0,o,h,ha=>by
  simp at h;subst h
  simp only[Z7Y,ha,cond_true]
  exact Z0W.2 (List.mem_cons_self ..)
 |x::H,i+1,o,h,ha=>by
  have:=Z0W.1 (Z7X (H:=H) (by simpa using h) ha)
  unfold Z7Y
  cases x.alive
  ·exact Z0W.2 this
  ·exact Z0W.2 (List.mem_cons_of_mem _ this)
theorem Z5F:∀{H:Z00}{i j:Nat}{o o':AObj},Z0L (Z7Y H)=true->H[i]? = some o->H[j]? = some o'->o.alive=true->o'.alive=true->o.fam=o'.fam->i=j
 |[],i,j,o,o',h,e,_,_,_,_=>by simp at e
 |x::H,i,j,o,o',h,e,e',ha,ha',hf=>by
  have hn:Z0L (Z7Y H)=true:=by
   unfold Z7Y at h
   cases hx:x.alive
   ·rw[hx]at h;exact h
   · rw[hx]at h
     simp only[cond_true,Z0L,Y0d]at h
     exact h.2
  have hx:x.alive=true->mem x.fam (Z7Y H)=false:=λhx=>by
   unfold Z7Y at h
   rw[hx]at h
   simp only[cond_true,Z0L,Y0d,Bool.not_eq_true']at h
   exact h.1
  cases i with
  |zero =>
   cases j with
   |zero=>rfl
   |succ j =>
    simp at e e';subst e
    have:=Z7X e' ha'
    rw[<- hf,hx ha]at this;cases this
  |succ i =>
   cases j with
   |zero =>
    simp at e e';subst e'
    have:=Z7X e ha
    rw[hf,hx ha']at this;cases this
   |succ j =>
    simp at e e'
    rw[Z5F hn e e' ha ha' hf]
theorem Z7G {P : Program} {gl : Z0o} {f : Nat} {Hs Hs' Hc : Z00} {fargs cargs : List AV} {r : AV} {m : List Nat} (hM : Z10 P gl f fargs Hs r Hs') (hargs : Wk m (.tuple cargs) (.tuple fargs)) (hsub : HpGe Hc m m Hs 0)
  (hnd:Z0L (m.map (Z0e Hc))=true) (hlone:Z29 m (m.map (Z0e Hc)) 0 Hc=true) (hnA:Z0L (Z7Y Hs')=true) (hF:∀o∈Hc,o.fam<Hc.length)
  (hg2:∀(i:Nat)(o:AObj),Hs'[i]? = some o->Z0J Hs'.length (Z3c o.body [])=true) (hrk:Z0J Hs'.length (Z1o r [])=true) :
  Z10 P gl f cargs Hc (ren (sgS m Hc.length) r) (ZaN m (sgS m Hc.length) Hs' 0 Hc++shS (sgS m Hc.length) Hc.length (Hs'.drop m.length)):=by
 intro sn ι W vargs hg hR hl
 obtain⟨hl1,hg1⟩:=hsub.get
 have inm:∀b,b∈m->∃ (i:Nat) (o o2:AObj) (p:Place),m[i]? = some b/\Hc[b]? = some o/\Hs[i]? = some o2/\o.alive=true/\o2.alive=true /\ ι b=some p/\o2.sh=o.sh:=by
  intro b hb
  obtain⟨i,hi,rfl⟩:=List.mem_iff_getElem.1 hb
  obtain⟨j,o,o2,x1,x2,x3,x4,x5,_,x7,_⟩:=hg1 i hi
  rw[Y05 hi]at x1
  cases x1
  obtain⟨p,hp⟩:=hR.place x2
  exact⟨i,o,o2,p,Y05 hi,x2,x3,x4,x5,hp,x7⟩
 have apart_:∀(b:Nat)(o:AObj)(p:Place),Hc[b]? = some o->o.alive=true->b ∉ m -> ι b=some p->∀b' p',b'∈m -> ι b'=some p'->p'.blk≠p.blk:=by
  intro b o p ho hoa hb hp b' p' hb' hp' e
  obtain⟨i,o',o2,q,y1,y2,y3,y4,y5,y6,_⟩:=inm b' hb'
  have hs:=hR.sep b b' o o' p p' ho y2 hoa y4 hp hp' e.symm
  rcases Z7H hlone ho hoa with h|h
  ·exact hb (by simpa using h)
  · refine h ?_
    rw[List.mem_map]
    exact⟨b',hb',by simp only[Z0e,y2];exact hs.1.symm⟩
 have hRs:R sn (iot m ι) Hs W:=ZlP hsub hnd hR
 have atm:∀{i:Nat}{p:Place},iot m ι i=some p->∃b,m[i]? = some b/\b∈m /\ ι b=some p:=λ{i p} hp=>by
  unfold iot at hp
  split at hp
  ·rename_i b hb;exact⟨b,hb,Y0P hb,hp⟩
  ·cases hp
 have hla:LR sn (iot m ι) fargs vargs:=by
  have h1:VR sn ι (.tuple cargs) (.tuple vargs.toArray):=by simp only[VR];exact⟨_,rfl,by simpa using hl⟩
  have h2:=hargs _ _ _ h1
  simp only[VR]at h2
  obtain⟨d,e1,e2⟩:=h2
  simp at e1;subst e1;simpa using e2
 refine (hM sn (iot m ι) W vargs hg hRs hla).mono ?_
 rintro e W' ⟨v,sn',ι',rfl,hv,hst⟩
 generalize hd:Hc.length=d at *
 generalize hk:m.length=k at *
 have hk':k<=Hs'.length:=by
  rcases Nat.eq_zero_or_pos k with h|h
  ·omega
  · have:=(Y0f.1 (hst.evo (k-1) _ (Y05 (by omega))).choose_spec.1).1
    omega
 let κ : Z0f:=λb=>if b<d then ι b else ι' (k+(b-d))
 have k1:∀b,b<d -> κ b = ι b:=λb hb=>if_pos hb
 have k2:∀b,d<=b -> κ b = ι' (k+(b-d)):=λb hb=>by show (if b<d then ι b else ι' (k+(b-d)))=_;rw[if_neg (by omega)]
 have mLt:∀{i b:Nat},m[i]? = some b->b<d:=λ{i b} h=>by
  obtain⟨_,o,_,p,_,y2,_⟩:=inm b (Y0P h)
  rw[<- hd];exact (Y0f.1 y2).1
 have hfwd:∀(i b:Nat)(p:Place),m[i]? = some b -> ι b=some p -> ι' i=some p:=λi b p hb hp=>hst.le.ι i p (by simp only[iot,hb];exact hp)
 have hback:∀i,i<Hs'.length->∀p,ι' i=some p -> κ (sgS m d i)=some p:=λi hi p hp=>by
  unfold sgS
  rw[hk]
  by_cases hik:i<k
  · obtain⟨b,hb⟩:∃b,m[i]? = some b:=⟨m[i],Y05 (by omega)⟩
    obtain⟨q,hq⟩:=(hR.dom b).1 (by rw[hd];exact mLt hb)
    have:=hfwd i b q hb hq
    rw[hp]at this;cases this
    rw[if_pos hik,Y0l,hb]
    show κ b=some p
    rw[k1 b (mLt hb)];exact hq
  ·rw[if_neg hik,k2 _ (by omega),show k+(d+(i-k)-d)=i by omega];exact hp
 have pos_:∀b,b∈m->∃i,Z0Q m b 0=some i/\m[i]? = some b:=λb hb=>by
  cases hx:Z0Q m b 0 with
  |none=>exact (Z5m hx hb).elim
  |some i=>exact⟨i,rfl,by simpa using (Z27 hx).2⟩
 have hlen:(ZaN m (sgS m d) Hs' 0 Hc).length=d:=by rw[ZdR,hd]
 have hnr:∀c,c<W.heap.size->(∀(b:Nat)(o:AObj) p,Hc[b]? = some o->o.alive=true -> ι b=some p->p.blk≠c)->W'.heap[c]? = W.heap[c]?:=λc hc hno=>by
  refine hst.frame c hc λi o2 p2 hi ha hp2 e=>?_
  obtain⟨b,_,hb,hp3⟩:=atm hp2
  obtain⟨_,o,_,_,_,y2,_,y4,_⟩:=inm b hb
  exact hno b o p2 y2 y4 hp3 e
 have old:∀(b:Nat)(o:AObj)(p:Place),Hc[b]? = some o->o.alive=true->b ∉ m -> ι b=some p->W'.heap[p.blk]? = W.heap[p.blk]?:=λb o p ho hoa hb hp=>by
  refine hst.frame _ (hR.blk b p hp) λi o2 p2 hi ha hp2 e=>?_
  obtain⟨c,_,hc,hp3⟩:=atm hp2
  exact apart_ b o p ho hoa hb hp c p2 hc hp3 e
 have new_:∀(j:Nat)(x:AObj)(p:Place),Hs'[j]? = some x->x.alive=true->k<=j -> ι' j=some p->∀(b:Nat)(o:AObj)(q:Place),Hc[b]? = some o->o.alive=true->b ∉ m -> ι b=some q->q.blk≠p.blk:=by
  intro j x p hj hja hkj hp b o q ho hoa hb hq e
  rcases hst.fresh j p hp with h|h|⟨b0,o0,p0,e1,e2,e3,e4⟩
  · obtain⟨c,hc,_⟩:=atm h
    have:=(Y0f.1 hc).1;omega
  ·have:=hR.blk b q hq;omega
  · obtain⟨c,_,hc,hp3⟩:=atm e3
    exact apart_ b o q ho hoa hb hq c p0 hc hp3 (e4.trans e.symm)
 have hget : ∀ (b : Nat) (o' : AObj) (p : Place), (ZaN m (sgS m d) Hs' 0 Hc ++ shS (sgS m d) d (Hs'.drop k))[b]? = some o' -> κ b = some p ->
   (b<d /\ ι b=some p/\∃o,Hc[b]? = some o/\o'.fam=o.fam/\o'.sh=o.sh/\((b ∉ m/\o'=o)\/∃i x,m[i]? = some b/\i<k/\Hs'[i]? = some x/\o'.alive=x.alive/\o'.body=Z36 (sgS m d) x.body/\o.alive=true /\ ι' i=some p)) \/
   (d<=b /\ ι' (k+(b-d))=some p/\∃x,Hs'[k+(b-d)]? = some x/\o'=⟨x.alive,b,x.sh,Z36 (sgS m d) x.body⟩):=by
  intro b o' p hb hp
  by_cases hlt:b<d
  · rw[Y0h (by omega)]at hb
    rw[k1 b hlt]at hp
    refine .inl ⟨hlt,hp,?_⟩
    rw[ZdS]at hb
    simp only[Y0p]at hb
    cases hx:Hc[b]? with
    |none=>rw[hx]at hb;cases hb
    |some o =>
     rw[hx]at hb
     simp only[Y0g,Option.some.injEq]at hb
     refine⟨o,rfl,?_⟩
     by_cases hbm:b∈m
     · obtain⟨i,h1,h2⟩:=pos_ b hbm
       have hi:i<k:=by rw[<- hk];exact (Y0f.1 h2).1
       have hi':i<Hs'.length:=by omega
       rw[h1]at hb
       simp only[Y05 hi']at hb
       subst hb
       obtain⟨_,y,_,_,_,y2,_,y4,_⟩:=inm b hbm
       rw[hx]at y2;cases y2
       exact⟨rfl,rfl,.inr ⟨i,Hs'[i],h2,hi,Y05 hi',rfl,rfl,y4,hfwd i b p h2 hp⟩⟩
     · have hn : Z0Q m b 0 = none := by
        cases hx:Z0Q m b 0 with
        |none=>rfl
        |some i=>exact (hbm (Y0P (Z27 hx).2)).elim
       rw[hn]at hb
       subst hb
       exact⟨rfl,rfl,.inl ⟨hbm,rfl⟩⟩
  · rw[Y0q (by omega),hlen,ZgO,Y0L]at hb
    rw[k2 b (by omega)]at hp
    cases hx:Hs'[k+(b-d)]? with
    |none=>rw[hx]at hb;cases hb
    |some x =>
     rw[hx]at hb
     simp only[Y0g,Option.some.injEq]at hb
     exact .inr ⟨by omega,hp,x,rfl,by rw[<- hb,show d+(b-d)=b by omega]⟩
 have hal:∀{b:Nat}{o o':AObj}{p:Place},((b ∉ m/\o'=o)\/∃i x,m[i]? = some b/\i<k/\Hs'[i]? = some x/\o'.alive=x.alive/\o'.body=Z36 (sgS m d) x.body/\o.alive=true /\ ι' i=some p)->o'.alive=true->o.alive=true:=λ{b o o' p} h ha=>by
  rcases h with ⟨_,rfl⟩|⟨_,_,_,_,_,_,_,h,_⟩
  ·exact ha
  ·exact h
 have hR':R sn' κ (ZaN m (sgS m d) Hs' 0 Hc++shS (sgS m d) d (Hs'.drop k)) W':=by
  refine⟨λb=>⟨λhb=>?_,λ⟨p,hp⟩=>?_⟩,λb p hp=>?_,λb o' p hb ha hp=>?_,λb b' o o' p p' hb hb' ha ha' hp hp' e=>?_,λa v hv=>?_,λb o' p hb hp e=>?_⟩
  · simp only[Y02,hlen,ZcB,Y0i]at hb
    by_cases hlt:b<d
    ·rw[k1 b hlt];exact (hR.dom b).1 (by omega)
    ·rw[k2 b (by omega)];exact (hst.rel.dom _).1 (by omega)
  · simp only[Y02,hlen,ZcB,Y0i]
    by_cases hlt:b<d
    ·omega
    · rw[k2 b (by omega)]at hp
      have:=(hst.rel.dom _).2 ⟨p,hp⟩;omega
  · by_cases hlt:b<d
    ·rw[k1 b hlt]at hp;exact Y0N (hR.blk b p hp) hst.size
    ·rw[k2 b (by omega)]at hp;exact hst.rel.blk _ p hp
  · rcases hget b o' p hb hp with ⟨b1,b2,o,b3,b4,b5,⟨b6,rfl⟩|⟨i,x,c1,c2,c3,c4,c5,c6,c7⟩⟩|⟨b1,b2,x,b3,rfl⟩
    · refine Z0P ⟨hst.le.sn,λc p hc=>?_⟩ (old b _ p b3 ha b6 b2) (hR.obj b _ p b3 ha b2)
      rw[k1 c (by have:=(hR.dom c).2 ⟨p,hc⟩;omega)];exact hc
    · rw[c5]
      exact Z8i x.body (Z3M x.body p (λy hy=>hback y (Z0N (hg2 i x c3) y hy)) (hst.rel.obj i x p c3 (by rw[<- c4];exact ha) c7))
    ·exact Z8i x.body (Z3M x.body p (λy hy=>hback y (Z0N (hg2 _ x b3) y hy)) (hst.rel.obj _ x p b3 ha b2))
  · rcases hget b o p hb hp with ⟨b1,b2,x,b3,b4,b5,b6⟩|⟨b1,b2,x,b3,rfl⟩<;>rcases hget b' o' p' hb' hp' with ⟨c1,c2,y,c3,c4,c5,c6⟩|⟨c1,c2,y,c3,rfl⟩
    · rw[b4,b5,c4,c5]
      exact hR.sep b b' x y p p' b3 c3 (hal b6 ha) (hal c6 ha') b2 c2 e
    · exfalso
      rcases b6 with ⟨b6,rfl⟩|⟨i,z,d1,d2,d3,d4,d5,d6,d7⟩
      ·exact new_ _ y p' c3 ha' (by omega) c2 b _ p b3 ha b6 b2 e
      · have hs:=(hst.rel.sep i _ z y p p' d3 c3 (by rw[<- d4];exact ha) ha' d7 c2 e).1
        have:=Z5F hnA d3 c3 (by rw[<- d4];exact ha) ha' hs
        omega
    · exfalso
      rcases c6 with ⟨c6,rfl⟩|⟨i,z,d1,d2,d3,d4,d5,d6,d7⟩
      ·exact new_ _ x p b3 ha (by omega) b2 b' _ p' c3 ha' c6 c2 e.symm
      · have hs:=(hst.rel.sep _ i x z p p' b3 d3 ha (by rw[<- d4];exact ha') b2 d7 e).1
        have:=Z5F hnA b3 d3 ha (by rw[<- d4];exact ha') hs
        omega
    · have hs:=hst.rel.sep _ _ x y p p' b3 c3 ha ha' b2 c2 e
      have:=Z5F hnA b3 c3 ha ha' hs.1
      have hbb:b=b':=by omega
      exact⟨hbb,hs.2⟩
  · obtain⟨h1,h2,h3⟩:=hst.rel.snap a v hv
    refine⟨h1,h2,λb o' p hb ha hp he=>?_⟩
    rcases hget b o' p hb hp with ⟨b1,b2,o,b3,b4,b5,⟨b6,rfl⟩|⟨i,x,c1,c2,c3,c4,c5,c6,c7⟩⟩|⟨b1,b2,x,b3,rfl⟩
    · rcases hst.sfresh a v hv with f1|f1|⟨b0,o0,p0,f1,f2,f3,f4⟩
      ·exact (hR.snap a v f1).2.2 b _ p b3 ha b2 he
      ·have:=hR.blk b p b2;omega
      · obtain⟨c,_,hc,hp3⟩:=atm f3
        exact apart_ b _ p b3 ha b6 b2 c p0 hc hp3 (f4.trans he.symm)
    ·exact h3 i x p c3 (by rw[<- c4];exact ha) c7 he
    ·exact h3 _ x p b3 ha b2 he
  · rcases hget b o' p hb hp with ⟨b1,b2,o,b3,b4,b5,b6⟩|⟨b1,b2,x,b3,rfl⟩
    ·exact hR.shz b o p b3 b2 (by rw[<- b5];exact e)
    ·exact hst.rel.shz _ x p b3 b2 e
 have oldp:∀(b0:Nat)(o0:AObj)(p0:Place),Hs[b0]? = some o0->o0.alive=true->iot m ι b0=some p0->∃ (b1:Nat) (o1:AObj) (p1:Place),Hc[b1]? = some o1/\o1.alive=true /\ ι b1=some p1/\p1.blk=p0.blk:=λb0 o0 p0 e1 e2 e3=>by
  obtain⟨c,_,hc,hp3⟩:=atm e3
  obtain⟨_,o,_,_,_,y2,_,y4,_⟩:=inm c hc
  exact⟨c,o,p0,y2,y4,hp3,rfl⟩
 refine⟨v,sn',κ,rfl,?_,hR',⟨hst.le.sn,λb p hb=>?_⟩,λb p hp=>?_,hnr,hst.size,hst.os,hst.tape,hst.output,λa v hv=>?_,λb o hb=>?_⟩
 ·exact (Z4G r v).2 (Z1n r [] v (λy hy=>hback y (Z0N hrk y hy)) hv)
 ·rw[k1 b (by have:=(hR.dom b).2 ⟨p,hb⟩;omega)];exact hb
 · by_cases hlt:b<d
   ·rw[k1 b hlt]at hp;exact .inl hp
   · rw[k2 b (by omega)]at hp
     rcases hst.fresh _ p hp with h|h|⟨b0,o0,p0,e1,e2,e3,e4⟩
     · obtain⟨c,hc,_⟩:=atm h
       have:=(Y0f.1 hc).1;omega
     ·exact .inr (.inl h)
     · obtain⟨b1,o1,p1,g1,g2,g3,g4⟩:=oldp b0 o0 p0 e1 e2 e3
       exact .inr (.inr ⟨b1,o1,p1,g1,g2,g3,g4.trans e4⟩)
 · rcases hst.sfresh a v hv with f1|f1|⟨b0,o0,p0,f1,f2,f3,f4⟩
   ·exact .inl f1
   ·exact .inr (.inl f1)
   · obtain⟨b1,o1,p1,g1,g2,g3,g4⟩:=oldp b0 o0 p0 f1 f2 f3
     exact .inr (.inr ⟨b1,o1,p1,g1,g2,g3,g4.trans f4⟩)
 · have hbd:b<d:=by rw[<- hd];exact (Y0f.1 hb).1
   have hb':b<(ZaN m (sgS m d) Hs' 0 Hc).length:=by omega
   have hx:=Y05 hb'
   obtain⟨p,hp⟩:=hR.place hb
   rcases hget b _ p (by rw[Y0h hb'];exact hx) (by rw[k1 b hbd];exact hp)with ⟨b1,b2,o2,b3,b4,b5,b6⟩|⟨b1,_⟩
   · rw[hb]at b3;cases b3
     exact⟨_,by rw[Y0h hb'];exact hx,b4,b5,λha=>hal b6 ha⟩
   ·omega
end Go.Abs
end
section
namespace Go.Proofs.YthbimonbnaodkaaGreatDoor.lex
open Go.Abs Go.RowKit Go.Sort
variable {gl:Z0o}
def Z0t(l:List Int):List AV:=l.map λn=>.int .i64 n
theorem Z1J(l:List Int):(Z0t l).length=l.length:=by simp[Z0t]
def leI:Int->Int->Bool:=λx y=>decide (x<=y)
def SortsI(P:Program)(f:Nat):Prop:=∀(blk off cap:Nat)(zs:List Int)(w:World),Holds (Value.int .i64) w blk off zs.toArray->blk<w.heap.size->zs.length<4611686018427387904 ->
 Calls P f #[.slice (some ⟨blk,off,none⟩) zs.length cap] w λe w'=>e = .returned (.tuple #[])/\∃n os,w'=grow (putRow (Value.int .i64) (Sort.ahead w n) blk off (zs.mergeSort leI).toArray) os
def CompactsI(P:Program)(f:Nat):Prop:=∀(blk off cap:Nat)(zs:List Int)(w:World),Holds (Value.int .i64) w blk off zs.toArray->zs.length<=9223372036854775807->zs.length<=cap ->
 Calls P f #[.slice (some ⟨blk,off,none⟩) zs.length cap] w λe w'=>e = .returned (.slice (some ⟨blk,off,none⟩) (Lib.compact zs).length cap)/\∃q,w'=putRow (Value.int .i64) (Sort.ahead w q) blk off (Lib.compact zs++List.replicate (zs.length-(Lib.compact zs).length) 0).toArray
theorem Zb0{sn:Z0g}{ι : Z0f}{H:Z00}{W:World}(hR:R sn ι H W){b f:Nat}{zs:List Int}{ty:TypeId}{p:Abs.Place}(hb:H[b]? = some ⟨true,f,0,.cells (Z0t zs) ty⟩)(hp : ι b=some p):p.sh=0/\zs.length<=p.n/\Holds (Value.int .i64) W p.blk 0 zs.toArray:=by
 have h0:=hR.shz b _ p hb hp rfl
 have ho:=hR.obj b _ p hb rfl hp
 simp only[OR]at ho
 obtain⟨arr,h1,h2,h3,h4⟩:=ho
 rw[Z1J]at h3
 refine⟨h0,by omega,λj hj=>?_⟩
 have hj':j<zs.length:=by simpa using hj
 obtain⟨v,e1,e2⟩:=h4 j (.int .i64 zs[j]) (by simp[Z0t,hj'])
 simp only[VR]at e2
 subst e2
 rw[h0,Y0p]at e1
 constructor
 · rw[Z1A h1,Y0p,e1]
   congr 2
   simp[hj']
 · unfold World.frozen?
   rw[h1]
   simp
theorem Zh1 {sn : Z0g} {ι : Z0f} {H : Z00} {W : World} (hR : R sn ι H W) {b f n : Nat} {zs zs' : List Int} {ty : TypeId} {p : Abs.Place} (hb : H[b]? = some ⟨true, f, 0, .cells (Z0t zs) ty⟩) (hp : ι b = some p) (hl : zs'.length = zs.length) :
  Stp sn ι H W sn ι ((Z3T b f H).set b ⟨true,f,0,.cells (Z0t zs') ty⟩) (putRow (Value.int .i64) (Sort.ahead W n) p.blk 0 zs'.toArray):=by
 have h0:=hR.shz b _ p hb hp rfl
 have ho:=hR.obj b _ p hb rfl hp
 simp only[OR]at ho
 obtain⟨arr,h1,h2,h3,h4⟩:=ho
 rw[Z1J]at h3
 have hheap:(putRow (Value.int .i64) (Sort.ahead W n) p.blk 0 zs'.toArray).heap[p.blk]? = some (.cells (putCells (Value.int .i64) 0 zs'.toArray arr) ty (0,0)):=by
  show (W.heap.modify p.blk _)[p.blk]? = _
  rw[Y0B,if_pos rfl,h1]
  rfl
 refine Stp.write (W':=putRow (Value.int .i64) (Sort.ahead W n) p.blk 0 zs'.toArray) hR (o:=⟨true,f,0,.cells (Z0t zs) ty⟩) hb rfl hp ⟨λc hc=>?_,by simp,rfl,rfl,rfl⟩ (.cells (Z0t zs') ty) ?_
 · show (W.heap.modify p.blk _)[c]? = _
   rw[Y0B,if_neg (λe=>hc e.symm)]
 · refine⟨_,hheap,by simp[putCells,h2],by rw[Z1J,hl];omega,λi c hc=>?_⟩
   have hi:i<zs'.length:=by have:=(Y0f.1 hc).1;rwa [Z1J]at this
   have hc':c = .int .i64 zs'[i]:=by simp only[Z0t,List.getElem?_map,Y05 hi,Y0g,Option.some.injEq]at hc;exact hc.symm
   subst hc'
   refine⟨.int .i64 zs'[i],?_,by simp[VR]⟩
   have hlt:p.sh+i<arr.size:=by omega
   simp only[putCells,Array.getElem?_mapIdx,Array.getElem?_eq_getElem hlt,Y0g,Option.some.injEq]
   rw[if_pos (by simp;omega)]
   congr 1
   simp[h0,hi]
def SortsNone(P:Program)(f:Nat):Prop:=∀(p:Option Addr)(cap:Nat)(w:World),Calls P f #[.slice p 0 cap] w λe w'=>e = .returned (.tuple #[])/\w'=w
def CompactsNone(P:Program)(f:Nat):Prop:=∀(a:Option Addr)(cap:Nat)(w:World),Calls P f #[.slice a 0 cap] w λe w'=>e = .returned (.slice a 0 cap)/\w'=w
theorem Zjq {P : Program} {fn : Nat} (hS : SortsI P fn) {H : Z00} {b f : Nat} (zs : List Int) {ty : TypeId} (cap : Nat) (hb : H[b]? = some ⟨true, f, 0, .cells (Z0t zs) ty⟩) (h0 : zs ≠ []) (h1 : zs.length < 4611686018427387904) :
  Z10 P gl fn [.slice b 0 zs.length cap 1] H (.tuple []) ((Z3T b f H).set b ⟨true,f,0,.cells (Z0t (zs.mergeSort leI)) ty⟩):=by
 intro sn ι W cargs hg hR ha
 obtain⟨v,rfl,hv⟩:∃v,cargs=[v]/\VR sn ι (.slice b 0 zs.length cap 1) v:=by
  simp only[LR]at ha;obtain⟨d,ds,rfl,h,rfl⟩:=ha;exact⟨d,rfl,h⟩
 obtain⟨p,a,cap',hp,rfl,g2,g3,g4⟩:=hv.slice
 have hlen:0<zs.length:=List.length_pos_iff.2 h0
 obtain⟨rfl,g5⟩:=g4 (by omega)
 obtain⟨k0,k1,k2⟩:=Zb0 hR hb hp
 have e0:p.sh+0=0:=by omega
 rw[e0]
 refine .inl ((hS p.blk 0 cap' zs W k2 (hR.blk b p hp) h1).mono ?_)
 rintro e W' ⟨rfl,n,os,rfl⟩
 have s1:=Zh1 (n:=n) (zs':=zs.mergeSort leI) hR hb hp (by simp)
 have s2:=Stp.ext s1.rel (W':=grow (putRow (Value.int .i64) (Sort.ahead W n) p.blk 0 (zs.mergeSort leI).toArray) os) ⟨λc hc=>by
  show (_++os)[c]? = _
  rw[Array.getElem?_append_left hc],by show _<=(_++os).size;simp,rfl,rfl,rfl⟩
 exact⟨_,sn,ι,rfl,by simp[VR,LR],Stp.trans hR s1 s2⟩
def cpt(zs:List Int):List Int:=Lib.compact zs++List.replicate (zs.length-(Lib.compact zs).length) 0
theorem Z86(zs:List Int):(Lib.compact zs).length<=zs.length:=by
 unfold Lib.compact Lib.compactUpTo
 rw[List.length_map]
 exact Nat.le_trans (List.length_filter_le _ _) (by simp)
theorem Zdi {P : Program} {fn : Nat} (hS : CompactsI P fn) {H : Z00} {b f : Nat} (zs : List Int) {ty : TypeId} (cap : Nat) (hb : H[b]? = some ⟨true, f, 0, .cells (Z0t zs) ty⟩) (h0 : zs ≠ []) (h1 : zs.length < 4611686018427387904) :
  Z10 P gl fn [.slice b 0 zs.length cap 1] H (.slice b 0 (Lib.compact zs).length cap 1) ((Z3T b f H).set b ⟨true,f,0,.cells (Z0t (cpt zs)) ty⟩):=by
 intro sn ι W cargs hg hR ha
 obtain⟨v,rfl,hv⟩:∃v,cargs=[v]/\VR sn ι (.slice b 0 zs.length cap 1) v:=by
  simp only[LR]at ha;obtain⟨d,ds,rfl,h,rfl⟩:=ha;exact⟨d,rfl,h⟩
 obtain⟨p,a,cap',hp,rfl,g2,g3,g4⟩:=hv.slice
 have hlen:0<zs.length:=List.length_pos_iff.2 h0
 obtain⟨rfl,g5⟩:=g4 (by omega)
 obtain⟨k0,k1,k2⟩:=Zb0 hR hb hp
 have e0:p.sh+0=0:=by omega
 have hc:=Z86 zs
 rw[e0]
 refine .inl ((hS p.blk 0 cap' zs W k2 (by omega) (by omega)).mono ?_)
 rintro e W' ⟨rfl,q,rfl⟩
 have s1:=Zh1 (n:=q) (zs':=cpt zs) hR hb hp (by simp[cpt];omega)
 exact⟨_,sn,ι,rfl,by simp only[VR];exact⟨p,_,cap',hp,rfl,by omega,g3,λh=>⟨by rw[e0],by omega⟩⟩,s1⟩
structure SoI where
 H:Z00
 b:Nat
 f:Nat
 zs:List Int
 cap:Nat
 ty:TypeId
def SoI.A(i:SoI):List AV:=match i.zs with|[]=>[.nslice]|z::r=>[.slice i.b 0 (r.length+1) i.cap 1]
def SoI.G(i:SoI):Prop:=i.zs.length<4611686018427387904/\(i.zs≠[]->i.H[i.b]? = some ⟨true,i.f,0,.cells (Z0t i.zs) i.ty⟩)
def SoI.O(i:SoI)(l:List Int):Z00:=match i.zs with|[]=>i.H|_::_=>(Z3T i.b i.f i.H).set i.b ⟨true,i.f,0,.cells (Z0t l) i.ty⟩
def SoI.R(i:SoI):AV:=match i.zs with|[]=>.nslice|_::_=>.slice i.b 0 (Lib.compact i.zs).length i.cap 1
theorem Zbr:∀{a b:List Int},Z0t a=Z0t b->a=b
 |[],[],_=>rfl
 |[],_::_,h=>by simp[Z0t]at h
 |_::_,[],h=>by simp[Z0t]at h
 |x::a,y::b,h=>by
  simp only[Z0t,List.map_cons,List.cons.injEq,AV.int.injEq,true_and]at h
  rw[h.1,Zbr (a:=a) (b:=b) h.2]
theorem SoI.inj{i j:SoI}(hi:i.G)(hj:j.G)(ha:i.A=j.A)(hH:i.H=j.H):i.zs=j.zs/\(i.zs≠[]->i.b=j.b/\i.f=j.f/\i.cap=j.cap/\i.ty=j.ty):=by
 obtain⟨H,b,f,zs,cap,ty⟩:=i
 obtain⟨H',b',f',zs',cap',ty'⟩:=j
 dsimp only at *
 subst hH
 simp only[SoI.A,SoI.G]at *
 cases zs with
 |nil =>
  cases zs' with
  |nil=>exact⟨rfl,λh=>(h rfl).elim⟩
  |cons y r=>simp at ha
 |cons x l =>
  cases zs' with
  |nil=>simp at ha
  |cons y r =>
   simp only[List.cons.injEq,AV.slice.injEq,and_true,true_and]at ha
   obtain⟨rfl,e1,rfl⟩:=ha
   have h1:=hi.2 (by simp)
   have h2:=hj.2 (by simp)
   rw[h1]at h2
   simp only[Option.some.injEq,AObj.mk.injEq,ABody.cells.injEq,true_and]at h2
   obtain⟨rfl,e2,rfl⟩:=h2
   exact⟨Zbr e2,λ_=>⟨rfl,rfl,rfl,rfl⟩⟩
theorem Zhr{P:Program}{fn:Nat}{r:AV}(h:∀W,∃v,VR (λ_=>none) noI r v/\Calls P fn #[.slice none 0 0] W λe W'=>e = .returned v/\W'=W)(H:Z00):Z10 P gl fn [.nslice] H r H:=by
 intro sn ι W cargs hg hR ha
 obtain⟨v,rfl,hv⟩:∃v,cargs=[v]/\VR sn ι .nslice v:=by
  simp only[LR]at ha;obtain⟨d,ds,rfl,h,rfl⟩:=ha;exact⟨d,rfl,h⟩
 simp only[VR]at hv
 subst hv
 obtain⟨v,h1,h2⟩:=h W
 refine .inl (h2.mono ?_)
 rintro e W' ⟨rfl,rfl⟩
 exact⟨_,sn,ι,rfl,Z0Z (Le.mk (λ_ _ h=>by simp at h) (λ_ _ h=>by simp[noI]at h)) _ _ h1,Stp.refl hR⟩
def sortFam{P:Program}{fn:Nat}(hb:Z0l P fn=true)(hS:SortsI P fn)(hN:SortsNone P fn):FamM P gl where
 I:=SoI
 f:=fn
 G:=SoI.G
 A:=SoI.A
 H:=SoI.H
 R:=λ_=>.tuple []
 O:=λi=>i.O (i.zs.mergeSort leI)
 body:=hb
 inj:=λi j hi hj ha hH=>by
  obtain⟨e1,e2⟩:=SoI.inj hi hj ha hH
  obtain⟨H,b,f,zs,cap,ty⟩:=i
  obtain⟨H',b',f',zs',cap',ty'⟩:=j
  dsimp only at e1 e2 hH
  subst e1;subst hH
  refine⟨rfl,?_⟩
  cases zs with
  |nil=>rfl
  |cons x l=>obtain⟨rfl,rfl,rfl,rfl⟩:=e2 (by simp);rfl
 ok:=λi hi=>by
  obtain⟨H,b,f,zs,cap,ty⟩:=i
  obtain⟨h1,h2⟩:=hi
  dsimp only at h1 h2⊢
  cases zs with
  |nil=>exact Zhr (λW=>⟨_,by simp[VR,LR],hN none 0 W⟩) H
  |cons x l=>exact Zjq hS (x::l) cap (h2 (by simp)) (by simp) h1
def Z9g{P:Program}{fn:Nat}(hb:Z0l P fn=true)(hS:CompactsI P fn)(hN:CompactsNone P fn):FamM P gl where
 I:=SoI
 f:=fn
 G:=SoI.G
 A:=SoI.A
 H:=SoI.H
 R:=SoI.R
 O:=λi=>i.O (cpt i.zs)
 body:=hb
 inj:=λi j hi hj ha hH=>by
  obtain⟨e1,e2⟩:=SoI.inj hi hj ha hH
  obtain⟨H,b,f,zs,cap,ty⟩:=i
  obtain⟨H',b',f',zs',cap',ty'⟩:=j
  dsimp only at e1 e2 hH
  subst e1;subst hH
  cases zs with
  |nil=>exact⟨rfl,rfl⟩
  |cons x l=>obtain⟨rfl,rfl,rfl,rfl⟩:=e2 (by simp);exact⟨rfl,rfl⟩
 ok:=λi hi=>by
  obtain⟨H,b,f,zs,cap,ty⟩:=i
  obtain⟨h1,h2⟩:=hi
  dsimp only at h1 h2⊢
  cases zs with
  |nil=>exact Zhr (λW=>⟨_,by simp[VR,SoI.R],hN none 0 W⟩) H
  |cons x l=>exact Zdi hS (x::l) cap (h2 (by simp)) (by simp) h1
theorem Za2{H:Z00}{n b f sh len cap z:Nat}{cs rest:List AV}{ty:TypeId}(hH:H[b]? = some ⟨true,f,sh,.cells (cs++rest) ty⟩)(hc:cs.length=len*z)(hl:cs.all lit=true):frz H (n+2) (.slice b 0 len cap z)=some (.rs len z cs):=by
 cases len with
 |zero =>
  rw[Nat.zero_mul]at hc
  rw[List.length_eq_zero_iff.1 hc]
  rfl
 |succ m =>
  show (match H[b]? with
   |some o=>match o.alive,o.body with
    |true,.cells cs _=>match tk ((m+1)*z) (cs.drop 0) with
     |some cs=>match Z0T (frz H (n+1)) cs with|some l=>some (AV.rs (m+1) z l)|none=>none
     |none=>none
    |_,_=>none
   |none=>none)=_
  rw[hH]
  have h1:tk ((m+1)*z) (cs++rest)=some cs:=by rw[<- hc];exact Z8I cs rest
  simp only[List.drop_zero,h1,Za3 hl]
theorem Zdg(d:Array Int):∀m,∀x,x∈Lib.compactUpTo d m ↔ ∃j,j<m/\d[j]! = x
 |0,x=>by simp[Lib.compactUpTo]
 |m+1,x=>by
  rw[Lib.compactUpTo_succ,List.mem_append,Zdg d m x]
  cases hk:Lib.keeps d m with
  |true =>
   simp only[if_true,List.mem_singleton]
   constructor
   · rintro (⟨j,hj,e⟩|e)
     ·exact⟨j,by omega,e⟩
     ·exact⟨m,by omega,e.symm⟩
   · rintro⟨j,hj,e⟩
     by_cases h:j=m
     ·subst h;exact .inr e.symm
     ·exact .inl ⟨j,by omega,e⟩
  |false =>
   have hk':m≠0/\d[m]! = d[m-1]!:=by
    unfold Lib.keeps at hk
    simp only[decide_eq_false_iff_not,not_or,ne_eq,Classical.not_not]at hk
    exact hk
   simp only[Bool.false_eq_true,if_false,Y0w,or_false]
   constructor
   ·rintro⟨j,hj,e⟩;exact⟨j,by omega,e⟩
   · rintro⟨j,hj,e⟩
     by_cases h:j=m
     ·subst h;exact⟨j-1,by omega,by rw[<- hk'.2];exact e⟩
     ·exact⟨j,by omega,e⟩
theorem Z9f(d:Array Int)(h:∀i j,i<=j->j<d.size->d[i]!<=d[j]!):∀m,m<=d.size->(Lib.compactUpTo d m).Pairwise (· < ·)
 |0,_=>by simp[Lib.compactUpTo]
 |m+1,hm=>by
  have ih:=Z9f d h m (by omega)
  rw[Lib.compactUpTo_succ]
  cases hk:Lib.keeps d m with
  |false=>simpa using ih
  |true =>
   simp only[if_true]
   rw[List.pairwise_append]
   refine⟨ih,by simp,λa ha b hb=>?_⟩
   rw[List.mem_singleton]at hb
   subst hb
   obtain⟨j,hj,rfl⟩:=(Zdg d m a).1 ha
   unfold Lib.keeps at hk
   simp only[decide_eq_true_eq]at hk
   have h1:=h j (m-1) (by omega) (by omega)
   have h2:=h (m-1) m (by omega) (by omega)
   rcases hk with hk|hk
   ·omega
   ·omega
theorem Z4e(zs:List Int)(x:Int):x∈Lib.compact zs ↔ x∈zs:=by
 unfold Lib.compact
 rw[Zdg]
 constructor
 · rintro⟨j,hj,rfl⟩
   rw[getElem!_pos zs.toArray j (by simpa using hj)]
   simp
 · intro hx
   obtain⟨j,hj,rfl⟩:=List.getElem_of_mem hx
   exact⟨j,hj,by rw[getElem!_pos zs.toArray j (by simpa using hj)];simp⟩
theorem Z8u(zs:List Int):(Lib.compact (zs.mergeSort leI)).Pairwise (· < ·):=by
 unfold Lib.compact
 have hp:(zs.mergeSort leI).Pairwise (λa b=>leI a b=true):=List.pairwise_mergeSort (λa b c h1 h2=>by simp only[leI,decide_eq_true_eq]at *;omega) (λa b=>by simp only[leI,Y0F,decide_eq_true_eq];omega) zs
 refine Z9f _ (λi j hij hj=>?_) _ (by simp)
 have hj':j<(zs.mergeSort leI).length:=by simpa using hj
 rw[getElem!_pos _ i (by omega),getElem!_pos _ j hj]
 simp only[List.getElem_toArray]
 by_cases e:i=j
 ·subst e;exact Int.le_refl _
 · have:=(List.pairwise_iff_getElem.1 hp) i j (by omega) hj' (by omega)
   simpa[leI]using this
theorem ZgE{zs:List Int}{l:List Nat}(hl:l.Pairwise (· < ·))(hm:∀x,x∈zs ↔ ∃n∈l,x=(n:Int)):Lib.compact (zs.mergeSort leI)=l.map λn:Nat=>(n:Int):=by
 have h1:=Z8u zs
 have h2:(l.map λn:Nat=>(n:Int)).Pairwise (· < ·):=by
  rw[List.pairwise_map]
  exact hl.imp λh=>by omega
 refine List.Perm.eq_of_pairwise (le:=(· < ·)) (λa b _ _ h3 h4=>by omega) h1 h2 ?_
 refine (List.perm_ext_iff_of_nodup (h1.imp λh=>by omega) (h2.imp λh=>by omega)).2 λx=>?_
 rw[Z4e,List.mem_mergeSort,hm,List.mem_map]
 constructor
 ·rintro⟨n,hn,rfl⟩;exact⟨n,hn,rfl⟩
 ·rintro⟨n,hn,rfl⟩;exact⟨n,hn,rfl⟩
end Go.Proofs.YthbimonbnaodkaaGreatDoor.lex
end

/-
  Texts of this proof, one behind the other (part 4).
-/
import Derived.Test.YtajhailaofchlaaDoorXc3
import Derived.RangeFuncRecord
import Derived.RangeFuncIn
import Derived.ChangeReads
import Derived.ChangeArms
import Derived.Stop.LaidErr
set_option linter.unusedVariables false
set_option linter.unusedSimpArgs false
set_option maxRecDepth 100000
set_option maxHeartbeats 4000000
open Nat renaming beq → Y00,zero_add → Y02,eq_of_beq_eq_true → Y05,blt_eq → Y09
open Bool renaming and_eq_true → Y01,false_eq_true → Y03,and_self → Y0e,or_eq_true → Y0f,not_eq_true' → Y0o
open List renaming getElem?_eq_some_iff → Y04,mem_cons → Y06,getElem?_eq_getElem → Y07,mem_of_getElem? → Y0b,length_cons → Y0c,append_nil → Y0g,mem_append → Y0h,all_eq_true → Y0i,getElem?_append_left → Y0j,mem_flatMap → Y0l,mem_iff_getElem → Y0m,getElem?_set → Y0n
open Option renaming bind_eq_some_iff → Y08,map_eq_some_iff → Y0a
open Int renaming toNat_natCast → Y0d
open Array renaming getElem?_eq_some_iff → Y0k
section
namespace Go.Abs
open Go.RowKit
def StsRel:List (Nat×TH)->List (Nat×Z00×List Nat)->Prop
 |[],[]=>True
 |(i,B)::l,(j,H,_)::m=>i=j/\Rep B H/\StsRel l m
 |_,_=>False
theorem StsRel.snoc{i:Nat}{B:TH}{H:Z00}{nw:List Nat}(hR:Rep B H):∀{l:List (Nat×TH)}{m:List (Nat×Z00×List Nat)},StsRel l m->StsRel (l++[(i,B)]) (m++[(i,H,nw)])
 |[],[],h=>⟨rfl,hR,trivial⟩
 |(a,b)::l,(c,e,f)::m,h=>⟨h.1,h.2.1,StsRel.snoc hR h.2.2⟩
 |[],_::_,h=>h.elim
 |_::_,[],h=>h.elim
theorem Z6s{P:Program}{gl:Glob}{orc:Orc}{ops:List Oper}{an:List Nat}{tm:Tr}:∀(l m:List Nat)(s:DSt),Z43 P gl orc ops an tm (l++m) s=(match Z43 P gl orc ops an tm l s with|some s'=>Z43 P gl orc ops an tm m s'|none=>none)
 |[],m,s=>by simp[Z43]
 |i::l,m,s=>by
  simp only[List.cons_append,Z43]
  cases Z4H P gl orc ops an tm i s with
  |none=>rfl
  |some s'=>exact Z6s l m s'
theorem Z4F(ops:List Oper):∀(l m:List Nat),Zcs ops (l++m)=Zcs ops l++Zcs ops m
 |[],m=>rfl
 |i::l,m=>by
  simp only[List.cons_append,Zcs]
  rw[Z4F ops l m]
  split
  ·split<;>simp
  ·rfl
theorem Zbr{m:Nat}:∀{l:List Nat},(∀i∈l,bit m i=true)->Z4c m l=true
 |[],h=>rfl
 |i::l,h=>by simp only[Z4c,Y01];exact⟨h i (by simp),Zbr λx hx=>h x (by simp[hx])⟩
section main
variable {P:Program} {gl:Glob} {d n:Nat} {ops:List Oper} {an:List Nat} {tm:Tr} {forc:Z5z} {orc:Orc} {H0:Z00} {rc:Bool}
theorem Zh7{o:Oper}{tm:Tr}{E:Tre AV d}{q:Tre AV d->AV}{want:Bool}(hE:EnvSim d n E tm)(hg:Zmg d n ops o=some (some (q,want))):Z0v ops o tm=(match q E with | .bool b=>some (b==want)|_=>some false):=by
 unfold Zmg at hg
 unfold Z0v
 split at hg
 ·simp at hg
 · rename_i j w e
   split at hg<;>try (simp at hg;done)
   rename_i g hj
   split at hg<;>try (simp at hg;done)
   rename_i t ht
   obtain⟨h1,h2⟩:=Z04 hg
   have h3:some (some ((ZfX AV d t).v,w))=some (some (q,want)):=h2
   simp at h3
   obtain⟨rfl,rfl⟩:=h3
   have htn:t<n:=by simpa[Y09]using h1
   simp only[e,hj,ht,hE t,if_pos htn,Z5R]
   split<;>simp_all
theorem ZlN {o : Oper} {c : Z5z -> Tre AV d -> TH -> AV -> Res -> Res} (hO : Z1F forc orc) (hc : Zo9 P gl d n ops o = some c) (hk : kind o = 1) {E : Tre AV d} {B : TH} {H : Z00} {v : AV} {k : Res} {out : AV × TH} {tmj : Tr} (hE : EnvSim d n E tmj) (hR : Rep B H)
  (h:c forc E B v k=some out):k=some out/\(Z0v ops o tmj=some true->Z02 P (Z1E gl tmj) H o=some v):=by
 unfold Zo9 at hc
 split at hc
 ·cases hc
 rename_i hodd
 have hodd:ZkH P o=false:=by simpa using hodd
 have run:∀{F:OpF d},cop P gl d n o=some F->(F forc E B λu _=>iff' (Zm8 v u) k none)=some out->k=some out/\Z02 P (Z1E gl tmj) H o=some v:=by
  intro F hF h1
  obtain⟨r,T',H',g1,g2,g3⟩:=ZjR hF forc orc E B _ out H hO hR h1
  obtain⟨e1,e2⟩:=Z04 g3
  have:=Zkd e1;subst this
  rw[Z9y hE]at g1
  exact⟨e2,(Z86 (by omega) hodd g1).1⟩
 split at hc<;>try (simp at hc;done)
 · rename_i F hF hg
   simp at hc;subst hc
   obtain⟨h1,h2⟩:=run hF h
   exact⟨h1,λ_=>h2⟩
 · rename_i F q want hF hg
   simp at hc;subst hc
   have hw:=Zh7 hE hg
   rcases Z2m h with ⟨b,e,h1⟩|⟨e,h1⟩
   · rw[e]at hw
     cases b<;>cases want
     ·obtain⟨a,b⟩:=run hF h1;exact⟨a,λ_=>b⟩
     ·exact⟨h1,λhh=>by rw[hw]at hh;simp at hh⟩
     ·exact⟨h1,λhh=>by rw[hw]at hh;simp at hh⟩
     ·obtain⟨a,b⟩:=run hF h1;exact⟨a,λ_=>b⟩
   · refine⟨h1,λhh=>?_⟩
     rw[hw]at hh
     split at hh
     ·rename_i b hb;exact absurd hb (e b)
     ·cases hh
theorem Zcj {o : Oper} {env : List (Nat × AV)} {v : AV} {j aj : Nat} {W : Prop} {chk : TH -> Res -> Res} {out : AV × TH} (hchk : ∀ B H k, Rep B H -> chk B k = some out -> k = some out /\ (W -> Z02 P (Z0G gl env) H o = some v)) {base : TH} {Hb : Z00} (hb : Rep base Hb) {k : Res} :
  ∀{sts:List (Nat×TH)}{l:List (Nat×Z00×List Nat)},StsRel sts l->ZmP an aj j chk base k sts=some out->k=some out/\(W->stages P gl o env v j an aj veq l Hb=true)
 |[],[],hs,h=>by
  obtain⟨h1,h2⟩:=hchk base Hb k hb h
  exact⟨h1,λw=>by simp only[stages,h2 w,Z1t]⟩
 |[],_::_,hs,h=>hs.elim
 |_::_,[],hs,h=>hs.elim
 |(e,B)::sts,(e',H,nw)::l,hs,h=>by
  obtain⟨rfl,hB,hs⟩:=hs
  have h:iff' (bit aj e) (ZmP an aj j chk base k sts) (chk B (iff' (bit (an.getD e 0) j) k (ZmP an aj j chk base k sts)))=some out:=h
  rcases Z0I h with ⟨h1,h2⟩|⟨h1,h2⟩
  · obtain⟨g1,g2⟩:=Zcj hchk hb hs h2
    exact⟨g1,λw=>by simp only[stages,h1,if_true];exact g2 w⟩
  · obtain⟨g1,g2⟩:=hchk B H _ hB h2
    rcases Z0I g1 with ⟨g3,g4⟩|⟨g3,g4⟩
    ·exact⟨g4,λw=>by simp only[stages,h1,Y03,if_false,g2 w,Z1t,g3,Bool.true_or,Y0e]⟩
    · obtain⟨g5,g6⟩:=Zcj hchk hb hs g4
      exact⟨g5,λw=>by simp only[stages,h1,Y03,if_false,g2 w,Z1t,g6 w,Bool.or_true,Y0e]⟩
theorem Zdw (hO : Z1F forc orc) {sts : List (Nat × TH)} {l : List (Nat × Z00 × List Nat)} (hs : StsRel sts l) {base : TH} {Hb : Z00} (hb : Rep base Hb) {k : Res} {out : AV × TH} :
  ∀{recs:List (Rec d)},(∀j Ej v,(j,Ej,v)∈recs->∃o tmj,ops[j]? = some o/\kind o=1/\EnvSim d n Ej tmj)->Zgd P gl d n ops an forc sts base k recs=some out->k=some out/\∀j Ej v,(j,Ej,v)∈recs->∀o tmj env,ops[j]? = some o->kind o=1->EnvSim d n Ej tmj->Z0v ops o tmj=some true ->
   (∀x∈o.op.operands.toList,Z0G gl env x=Z1E gl tmj x)->stages P gl o env v j an (an.getD j 0) veq l Hb=true
 |[],hr,h=>⟨h,by simp⟩
 |(j,E,v)::recs,hr,h=>by
  have h:(Option.rec none (λc=>ZmP an (an.getD j 0) j (λB k=>c forc E B v k) base (Zgd P gl d n ops an forc sts base k recs) sts) (Zj0 P gl d n ops j):Res)=some out:=h
  cases hc:Zj0 P gl d n ops j with
  |none=>rw[hc]at h;cases h
  |some c =>
   rw[hc]at h
   unfold Zj0 at hc
   split at hc<;>try (simp at hc;done)
   rename_i o ho
   obtain⟨o',tm0,ho',hk0,hE0⟩:=hr j E v (by simp)
   have hoo:o=o':=by rw[ho]at ho';simpa using ho'
   subst hoo
   have gen:∀tmj env,EnvSim d n E tmj->Zgd P gl d n ops an forc sts base k recs=some out/\(Z0v ops o tmj=some true/\(∀x∈o.op.operands.toList,Z0G gl env x=Z1E gl tmj x)->stages P gl o env v j an (an.getD j 0) veq l Hb=true):=by
    intro tmj env hE
    refine Zcj (P:=P) (gl:=gl) (o:=o) (env:=env) (v:=v) (W:=Z0v ops o tmj=some true/\∀x∈o.op.operands.toList,Z0G gl env x=Z1E gl tmj x) (λB H k hB hck=>?_) hb hs h
    obtain⟨a,b⟩:=ZlN hO hc hk0 hE hB hck
    exact⟨a,λw=>by rw[Z4J w.2];exact b w.1⟩
   obtain⟨h1,_⟩:=gen tm0 [] hE0
   obtain⟨h2,h3⟩:=Zdw hO hs hb (λj Ej v hm=>hr j Ej v (by simp[hm])) h1
   refine⟨h2,λj' Ej v' hm o' tmj env ho2 hk2 hE2 hw hx=>?_⟩
   rcases Y06.1 hm with heq|hm
   · simp only[Prod.mk.injEq]at heq
     obtain⟨rfl,rfl,rfl⟩:=heq
     have:o'=o:=by rw[ho]at ho2;simpa using ho2.symm
     subst this
     exact (gen tmj env hE2).2 ⟨hw,hx⟩
   ·exact h3 j' Ej v' hm o' tmj env ho2 hk2 hE2 hw hx
theorem Z7b {s : DSt} : ∀ (l : List Oper) (j : Nat), (∀ k o, l[k]? = some o -> kind o = 1 -> ∃ env v, Z1q tm s.vals ops (bit (an.getD (j + k) 0)) (looks ops o) = some env /\ s.vals[j + k]? = some (some v) /\
  (Z09 ops env o=true->stages P gl o env v (j+k) an (an.getD (j+k) 0) veq s.sts s.base=true))->Z18 P gl tm ops an s l j=true
 |[],j,h=>rfl
 |o::l,j,h=>by
  simp only[Z18,Y01]
  refine⟨?_,Z7b l (j+1) λk x hx hk=>?_⟩
  · split
    · rename_i hk
      obtain⟨env,v,h1,h2,h3⟩:=h 0 o rfl (Y05 hk)
      simp only[Nat.add_zero]at h1 h2 h3
      simp only[h1,h2]
      split
      ·rename_i hw;rw[h3 hw];rfl
      ·rfl
    ·rfl
  · obtain⟨env,v,h1,h2,h3⟩:=h (k+1) x (by simpa using hx) hk
    rw[show j+(k+1)=j+1+k from by omega]at h1 h2 h3
    exact⟨env,v,h1,h2,h3⟩
structure DInv (P:Program) (gl:Glob) (orc:Orc) (d n:Nat) (ops:List Oper) (tm:Tr) (H0:Z00) (rc:Bool) (l1 pend:List Nat) (E:Tre AV d) (T B:TH) (sts:List (Nat×TH)) (recs:List (Rec d)) (s:DSt) (tmc:Tr):Prop where
 run:Z43 P gl orc ops (Z0R ops []) tm l1 ⟨Z0Y ops,0,H0,[],H0,[]⟩=some s
 v:VInv ops (Z0R ops []) tm s.vals s.done tmc
 env:EnvSim d n E tmc
 heap:Rep T s.heap
 base:Rep B s.base
 sts:StsRel sts s.sts
 new:∀k∈s.new,k∈pend
 effs:Z0f s.sts=Zcs ops l1
 noeff:rc=false->s.heap=H0/\s.base=H0/\s.sts=[]
 recOk:∀j Ej v,(j,Ej,v)∈recs->∃o tmj,ops[j]? = some o/\kind o=1/\EnvSim d n Ej tmj
 loads:∀j o,bit s.done j=true->ops[j]? = some o->kind o=1->∃env v,Z1q tm s.vals ops (bit ((Z0R ops []).getD j 0)) (looks ops o)=some env/\s.vals[j]? = some (some v) /\
  (Z09 ops env o=true->(rc=true/\∃Ej tmj,(j,Ej,v)∈recs/\EnvSim d n Ej tmj/\Z0v ops o tmj=some true/\∀x∈o.op.operands.toList,Z0G gl env x=Z1E gl tmj x)\/(rc=false/\Z02 P (Z0G gl env) H0 o=some v))
theorem Zlv (hO : Z1F forc orc) (hst : dOK n ops (Z0R ops []) = true) {E0 : Tre AV d} (hE0 : EnvSim d n E0 tm) {pend : List Nat} {E : Tre AV d} {T B : TH} {sts : List (Nat × TH)} {recs : List (Rec d)} {s : DSt} {tmc : Tr} (h : DInv P gl orc d n ops tm H0 rc (Z7o ops (Z0R ops [])) pend E T B sts recs s tmc) (hdone : Y00 (s.done + 1) (2 ^ ops.length) = true)
  {k:Res} {out:AV×TH} (hc:Zgd P gl d n ops (Z0R ops []) forc sts B k recs=some out):(∃tm',Z6D P gl orc ops tm H0=some (tm',s.heap)/\EnvSim d n E tm')/\k=some out:=by
 obtain⟨h1,h2⟩:=Zdw hO h.sts h.base h.recOk hc
 refine⟨?_,h1⟩
 unfold dOK at hst
 obtain⟨s1,hst⟩:=Z0F hst
 obtain⟨s2,hst⟩:=Z0F hst
 obtain⟨s3,hst⟩:=Z0F hst
 obtain⟨s4,s5⟩:=Z0F hst
 have hall:∀k,k<ops.length->bit s.done k=true:=λk hk=>by
  have e:=Y05 hdone
  rw[ZdM e];simpa using hk
 have hchain:Z45 (Z0R ops []) (Z0f s.sts)=true:=by rw[h.effs];exact s4
 have hstg:Z18 P gl tm ops (Z0R ops []) s ops 0=true:=by
  refine Z7b ops 0 λj o ho hk=>?_
  rw[Y02]
  obtain⟨env,v,g1,g2,g3⟩:=h.loads j o (hall j (Y04.1 ho).1) ho hk
  refine⟨env,v,g1,g2,λhw=>?_⟩
  rcases g3 hw with ⟨_,Ej,tmj,g4,g5,g6,g7⟩|⟨g4,g5⟩
  ·exact h2 j Ej v g4 o tmj env ho hk g5 g6 g7
  · obtain⟨e1,e2,e3⟩:=h.noeff g4
    rw[e2,e3]
    simp only[stages,g5,Z1t]
 obtain⟨tm',hfin⟩:=Z3Y (vals:=s.vals) ops 0 tm (λk hk=>by rw[Y02];exact h.v.known k (hall k hk)) (λo ho dd hd=>by
  obtain⟨k,hk,hko⟩:=Y0m.1 ho
  obtain⟨x,hx⟩:=h.v.dst k o dd (hall k hk) (by rw[<- hko];exact Y07 hk) hd
  rw[h.env dd]at hx
  split at hx
  ·rename_i hlt;exact Z6J _ _ _ (by rw[hE0 dd,if_pos hlt])
  ·cases hx)
 refine⟨tm',?_,?_⟩
 · unfold Z6D
   simp only[s1,s2,Y0e,if_true,h.run,hchain,hdone,hstg,hfin]
 · intro t
   rw[(Z2J ops 0 tm tm' hfin).2 t _ rfl,<- h.env t,<- h.v.cur t]
   exact Z15 ops 0 _ λk o hk _=>by
    rw[Y02]
    exact (hall k (Y04.1 hk).1).symm
theorem DInv.step {l1 pend : List Nat} {i : Nat} {E : Tre AV d} {T B : TH} {sts : List (Nat × TH)} {recs : List (Rec d)} {s : DSt} {tmc : Tr} (h : DInv P gl orc d n ops tm H0 rc l1 pend E T B sts recs s tmc) {o : Oper} (ho : ops[i]? = some o) {env : List (Nat × AV)}
  (hi:bit s.done i=false) (han:∀k,bit ((Z0R ops []).getD i 0) k=true->bit s.done k=true) (hb:(Z0R ops []).getD i 0<2 ^ i) (htm:Z0N ops (Z0R ops []) i o=true)
  (henv:Z1q tm s.vals ops (bit ((Z0R ops []).getD i 0)) (looks ops o)=some env) {r:AV} {tm1:Tr} (hp:Z3L o.dst r tmc=some tm1) {E1:Tre AV d} (hE1:EnvSim d n E1 tm1) {base heap:Z00} {new:List Nat} {st:List (Nat×Z00×List Nat)}
  (hd:Z4H P gl orc ops (Z0R ops []) tm i s=some ⟨s.vals.set i (some r),Nat.lor s.done (2 ^ i),base,new,heap,st⟩) {pend1:List Nat} {T1 B1:TH} {sts1:List (Nat×TH)} {recs1:List (Rec d)} (hT:Rep T1 heap) (hB:Rep B1 base) (hs:StsRel sts1 st)
  (hn:∀k∈new,k∈pend1) (he:Z0f st=Zcs ops (l1++[i])) (hne:rc=false->heap=H0/\base=H0/\st=[]) (hr1:∀x∈recs,x∈recs1) (hr2:∀j Ej v,(j,Ej,v)∈recs1->∃o tmj,ops[j]? = some o/\kind o=1/\EnvSim d n Ej tmj)
  (hl:kind o=1->Z09 ops env o=true->(rc=true/\∃Ej tmj,(i,Ej,r)∈recs1/\EnvSim d n Ej tmj/\Z0v ops o tmj=some true/\∀x∈o.op.operands.toList,Z0G gl env x=Z1E gl tmj x)\/(rc=false/\Z02 P (Z0G gl env) H0 o=some r)) :
  DInv P gl orc d n ops tm H0 rc (l1++[i]) pend1 E1 T1 B1 sts1 recs1 ⟨s.vals.set i (some r),Nat.lor s.done (2 ^ i),base,new,heap,st⟩ tm1:=by
 have hle:=h.v.vle hi r
 refine⟨?_,h.v.next ho hp hi han hb htm,hE1,hT,hB,hs,hn,he,hne,hr2,?_⟩
 · rw[Z6s,h.run]
   simp only[Z43,hd]
 · intro j x hj hx hk
   rw[Z4o,Y0f]at hj
   by_cases e:j=i
   · subst e
     have:x=o:=by rw[ho]at hx;simpa using hx.symm
     subst this
     exact⟨env,r,Z1L hle _ _ henv,by rw[Y0n,if_pos rfl,if_pos (by rw[h.v.vlen];exact (Y04.1 ho).1)],hl hk⟩
   · have hj' : bit s.done j = true := by
      rcases hj with hj|hj
      ·exact hj
      ·exact absurd (Y05 hj) e
     obtain⟨env',v,g1,g2,g3⟩:=h.loads j x hj' hx hk
     refine⟨env',v,Z1L hle _ _ g1,by rw[Y0n,if_neg (Ne.symm e)];exact g2,λhw=>?_⟩
     rcases g3 hw with ⟨a,Ej,tmj,b,c⟩|g
     ·exact .inl ⟨a,Ej,tmj,hr1 _ b,c⟩
     ·exact .inr g
theorem Zh6:∀{l:List Nat}{G:Tre AV d->List AV},clk gl d n l=some G->∀E t,t∈l->Z2z d t E∈G E
 |[],G,h,E,t,ht=>by simp at ht
 |s::l,G,h,E,t,ht=>by
  simp only[clk]at h
  split at h<;>simp at h
  rename_i g G' hg hG
  subst h
  rcases Y06.1 ht with rfl|ht
  · unfold Z0E at hg
    obtain⟨_,h2⟩:=Z04 (show iff' (Nat.blt t n) (Bx.rec (λg=>some g) (ZfX AV d t)) none=some g from hg)
    have h3:some (ZfX AV d t).v=some g:=h2
    simp at h3;subst h3
    rw[<- Z5R];simp
  ·exact List.mem_cons_of_mem _ (Zh6 hG E t ht)
theorem Zj3{o:Oper}{g:Tre AV d->AV}(hg:Zmh gl d n o=some g){r:AV}{tmc tm1:Tr}(hp:Z3L o.dst r tmc=some tm1){E1:Tre AV d}(hE1:EnvSim d n E1 tm1):g E1=r:=by
 unfold Zmh at hg
 cases hd:o.dst with
 |none=>rw[hd]at hg;simp at hg
 |some t =>
  rw[hd]at hg
  simp only at hg
  unfold Z0E at hg
  obtain⟨h1,h2⟩:=Z04 (show iff' (Nat.blt t n) (Bx.rec (λg=>some g) (ZfX AV d t)) none=some g from hg)
  have h3:some (ZfX AV d t).v=some g:=h2
  simp at h3;subst h3
  have ht:t<n:=by simpa[Y09]using h1
  rw[Z5R]
  have h4:=Z9B (o:=o) hd (by rw[hd]at hp;exact hp) t
  rw[hE1 t,if_pos ht]at h4
  simpa[Z2t,hd]using h4
theorem Z40 (hn : n <= 8 ^ d) (hO : Z1F forc orc) (hodd : Zek P ops = true) (hst : dOK n ops (Z0R ops []) = true) (hrc : rc = Z7H ops) {E0 : Tre AV d} (hE0 : EnvSim d n E0 tm) : ∀ (l l1 pend : List Nat) (E : Tre AV d) (T B : TH) (sts : List (Nat × TH)) (recs : List (Rec d)) (k : Tre AV d -> TH -> Res) (out : AV × TH) (s : DSt) (tmc : Tr),
  l1++l=Z7o ops (Z0R ops [])->sOK ops (Z0R ops []) l s.done pend=true ->
  DInv P gl orc d n ops tm H0 rc l1 pend E T B sts recs s tmc->ZbL P gl d n ops (Z0R ops []) rc forc l E T B sts recs k=some out->∃E' T' tm' H',Z6D P gl orc ops tm H0=some (tm',H')/\EnvSim d n E' tm'/\Rep T' H'/\k E' T'=some out
 |[],l1,pend,E,T,B,sts,recs,k,out,s,tmc,hd,hs,h,hc=>by
  rw[Y0g]at hd
  subst hd
  obtain⟨⟨tm',h1,h3⟩,h2⟩:=Zlv hO hst hE0 h hs hc
  exact⟨E,T,tm',s.heap,h1,h3,h.heap,h2⟩
 |i::l,l1,pend,E,T,B,sts,recs,k,out,s,tmc,hd,hs,h,hc=>by
  have hd1:(l1++[i])++l=Z7o ops (Z0R ops []):=by rw[<- hd];simp
  simp only[sOK]at hs
  split at hs
  ·cases hs
  rename_i o ho
  have hil:i<ops.length:=(Y04.1 ho).1
  simp only[Y01,Y0o]at hs
  obtain⟨⟨hnd,hland⟩,hs⟩:=hs
  have han:=Zdf hland
  have hst':=hst
  unfold dOK at hst'
  obtain⟨s1,hst'⟩:=Z0F hst'
  obtain⟨s2,hst'⟩:=Z0F hst'
  obtain⟨s3,hst'⟩:=Z0F hst'
  obtain⟨s4,s5⟩:=Z0F hst'
  have hlt:∀t∈looks ops o,t<n:=Z1n (Z5u s5 o (Y0b ho))
  have htm:=Z3m ops 0 i o s1 ho
  rw[Y02]at htm
  have hb:(Z0R ops []).getD i 0<2 ^ i:=by
   have:=Z20 (Z0R ops []) 0 i s2 (by rw[Z3i];exact hil)
   rwa [Y02]at this
  obtain⟨env,henv,hlk,hvl⟩:=ZiR htm hlt h.v h.env hnd han
  have hρ:=Zew (gl:=gl) hlk h.env hlt
  have hc:(Option.rec (λ_ _ _ _ _ _=>none) (λo=>ZmT P gl d n ops rc forc i o (ZbL P gl d n ops (Z0R ops []) rc forc l)) (ops[i]?):Znk d) E T B sts recs k=some out:=hc
  rw[ho]at hc
  have hc:(Option.rec none (λs=>ZoA (kind o)
   (s forc E T λE' T'=>ZbL P gl d n ops (Z0R ops []) rc forc l E' T' B sts recs k)
   (iff' rc (Option.rec none (λg=>s forc E T λE' T'=>frc1 (g E') λv=>ZbL P gl d n ops (Z0R ops []) rc forc l E' T' B sts ((i,E,v)::recs) k) (Zmh gl d n o)) (s forc E T λE' T'=>ZbL P gl d n ops (Z0R ops []) rc forc l E' T' B sts recs k))
   (s forc E T λE' T'=>iff' (iff' (Y00 T'.sz T.sz) true (ltO T.sz (T'.get T.sz))) (ZbL P gl d n ops (Z0R ops []) rc forc l E' T' B sts recs k) none)
   (Option.rec none (λL=>iff' (ltL T.sz (L E)) (s forc E T λE' T'=>iff' (Nat.ble T.sz T'.sz) (ZbL P gl d n ops (Z0R ops []) rc forc l E' T' T' (Zhf sts [(i,B)]) recs k) none) none) (clk gl d n (looks ops o))))
   (Zbg P gl d n ops o):Res)=some out:=hc
  cases hcs:Zbg P gl d n ops o with
  |none=>rw[hcs]at hc;cases hc
  |some stp =>
  rw[hcs]at hc
  have hstep:=ZdF hn hcs
  have heff:kind o≠3->Z0f s.sts=Zcs ops (l1++[i]):=by
   intro hk
   rw[h.effs,Z4F]
   have:Y00 (kind o) 3=false:=by cases hq:Y00 (kind o) 3 with|false=>rfl|true=>exact absurd (Y05 hq) hk
   simp[Zcs,ho,this]
  have low : ∀ (K : Tre AV d -> TH -> Res), kind o < 2 -> stp forc E T K = some out ->
    ∃E' T' tm1 r,EnvSim d n E' tm1/\Rep T' s.heap/\K E' T'=some out/\Z3L o.dst r tmc=some tm1/\∀recs1:List (Rec d),(∀x∈recs,x∈recs1)->(∀j Ej v,(j,Ej,v)∈recs1->∃o tmj,ops[j]? = some o/\kind o=1/\EnvSim d n Ej tmj) ->
     (kind o = 1 -> Z09 ops env o = true -> Z0v ops o tmc = some true -> Z02 P (Z0G gl env) s.heap o = some r ->
       (rc=true/\∃Ej tmj,(i,Ej,r)∈recs1/\EnvSim d n Ej tmj/\Z0v ops o tmj=some true/\∀x∈o.op.operands.toList,Z0G gl env x=Z1E gl tmj x)\/(rc=false/\Z02 P (Z0G gl env) H0 o=some r)) ->
     ∀pend1:List Nat,(∀x∈pend,x∈pend1)->DInv P gl orc d n ops tm H0 rc (l1++[i]) pend1 E' T' B sts recs1 ⟨s.vals.set i (some r),Nat.lor s.done (2 ^ i),s.base,s.new,s.heap,s.sts⟩ tm1:=by
   intro K hk hh
   obtain⟨E1,T1,tm1,H1,g1,g2,g3,g4⟩:=hstep forc orc E T K out s.heap tmc hO h.heap h.env hh
   rcases g4 with ⟨w1,r,w2,w3⟩|⟨w1,w2,rfl⟩
   · obtain⟨a1,rfl⟩:=Z86 hk (Z8L hodd o (Y0b ho)) w2
     have hw:=Z1H hlk h.env hlt w1
     have a2:Z02 P (Z0G gl env) s.heap o=some r:=by rw[Z4J hρ];exact a1
     refine⟨E1,T1,tm1,r,g1,g2,g3,w3,λrecs1 hr1 hr2 hld pend1 hpd=>?_⟩
     refine h.step ho hnd han hb htm henv w3 g1 ?_ g2 h.base h.sts (λk hk=>hpd k (h.new k hk)) (heff (by omega)) h.noeff hr1 hr2 (λhk1 hw1=>hld hk1 hw1 w1 a2)
     unfold Z4H
     simp only[ho,henv,hnd,Y03,if_false]
     split
     ·omega
     ·omega
     ·simp only[hw,if_true,a2,Z1z]
   · have hw:=Z1H hlk h.env hlt w1
     refine⟨E1,T1,tm1,.tuple [],g1,g2,g3,w2,λrecs1 hr1 hr2 _ pend1 hpd=>?_⟩
     refine h.step ho hnd han hb htm henv w2 g1 ?_ g2 h.base h.sts (λk hk=>hpd k (h.new k hk)) (heff (by omega)) h.noeff hr1 hr2 (λ_ hw1=>by rw[hw]at hw1;cases hw1)
     unfold Z4H
     simp only[ho,henv,hnd,Y03,if_false]
     split
     ·omega
     ·omega
     ·simp only[hw,Y03,if_false]
  rcases Z8S o with hk|hk|hk|hk
  · rw[hk]at hc hs
    replace hc:stp forc E T (λE' T'=>ZbL P gl d n ops (Z0R ops []) rc forc l E' T' B sts recs k)=some out:=hc
    obtain⟨E1,T1,tm1,r,g1,g2,g3,g4,g5⟩:=low _ (by omega) hc
    exact Z40 hn hO hodd hst hrc hE0 l _ pend E1 T1 B sts recs k out _ tm1 hd1 hs (g5 recs (λ_ h=>h) h.recOk (λhk1=>by omega) pend λ_ h=>h) g3
  · rw[hk]at hc hs
    replace hc:iff' rc (Option.rec none (λg=>stp forc E T λE' T'=>frc1 (g E') λv=>ZbL P gl d n ops (Z0R ops []) rc forc l E' T' B sts ((i,E,v)::recs) k) (Zmh gl d n o)) (stp forc E T λE' T'=>ZbL P gl d n ops (Z0R ops []) rc forc l E' T' B sts recs k)=some out:=hc
    rcases Z0I hc with ⟨hr,hc2⟩|⟨hr,hc2⟩
    · cases hcd:Zmh gl d n o with
      |none=>rw[hcd]at hc2;cases hc2
      |some g =>
       rw[hcd]at hc2
       replace hc2:stp forc E T (λE' T'=>frc1 (g E') λv=>ZbL P gl d n ops (Z0R ops []) rc forc l E' T' B sts ((i,E,v)::recs) k)=some out:=hc2
       obtain⟨E1,T1,tm1,r,g1,g2,g3,g4,g5⟩:=low _ (by omega) hc2
       have e1:g E1=r:=Zj3 hcd g4 g1
       rw[Z0o,e1]at g3
       refine Z40 hn hO hodd hst hrc hE0 l _ pend E1 T1 B sts ((i,E,r)::recs) k out _ tm1 hd1 hs (g5 ((i,E,r)::recs) (λx hx=>by simp[hx]) ?_ (λ_ _ hw a=>.inl ⟨hr,E,tmc,by simp,h.env,hw,hρ⟩) pend λ_ h=>h) g3
       intro j Ej v hm
       rcases Y06.1 hm with heq|hm
       ·simp only[Prod.mk.injEq]at heq;obtain⟨rfl,rfl,rfl⟩:=heq;exact⟨o,tmc,ho,hk,h.env⟩
       ·exact h.recOk j Ej v hm
    · obtain⟨E1,T1,tm1,r,g1,g2,g3,g4,g5⟩:=low _ (by omega) hc2
      refine Z40 hn hO hodd hst hrc hE0 l _ pend E1 T1 B sts recs k out _ tm1 hd1 hs (g5 recs (λ_ h=>h) h.recOk (λ_ _ _ a=>.inr ⟨hr,?_⟩) pend λ_ h=>h) g3
      rw[(h.noeff hr).1]at a;exact a
  · have hne : rc = false -> False := fun e => by
     rw[hrc]at e
     have:=Z4B e o (Y0b ho)
     omega
    rw[hk]at hc hs
    replace hc:stp forc E T (λE' T'=>iff' (iff' (Y00 T'.sz T.sz) true (ltO T.sz (T'.get T.sz))) (ZbL P gl d n ops (Z0R ops []) rc forc l E' T' B sts recs k) none)=some out:=hc
    obtain⟨E1,T1,tm1,H1,g1,g2,g3,g4⟩:=hstep forc orc E T _ out s.heap tmc hO h.heap h.env hc
    obtain⟨q1,q2⟩:=Z04 g3
    rcases g4 with ⟨w1,r,w2,w3⟩|⟨w1,w2,rfl⟩
    · obtain⟨mk,body,a1,rfl,rfl⟩:=ZcA hk w2
      have hw:=Z1H hlk h.env hlt w1
      have a2:Z0t P (Z0G gl env) o=some (mk,body):=by rw[Zaa hρ];exact a1
      have hsz:T1.sz=T.sz+1:=by rw[g2.sz,h.heap.sz];simp
      have hq:Y00 T1.sz T.sz=false:=by cases hq:Y00 T1.sz T.sz with|false=>rfl|true=>have:=Y05 hq;omega
      rw[hq]at q1
      obtain⟨l1,l2⟩:=Zih (show ltO T.sz (T1.get T.sz)=true from q1)
      have hob:=g2.obj T.sz l1
      rw[h.heap.sz,List.getElem?_append_right (Nat.le_refl _)]at hob
      simp at hob
      rw[h.heap.sz,<- hob]at l2
      refine Z40 hn hO hodd hst hrc hE0 l _ (pend++[i]) E1 T1 B sts recs k out _ tm1 hd1 hs (h.step ho hnd han hb htm henv w3 g1 ?_ g2 h.base h.sts (new:=s.new++[i]) ?_ (heff (by omega)) (λe=>(hne e).elim) (λ_ h=>h) h.recOk (λhk1=>by omega)) q2
      · unfold Z4H
        simp only[ho,henv,hnd,Y03,if_false,hk,hw,if_true,a2]
        rw[if_pos l2,Z1z]
      · intro k hkm
        rcases Y0h.1 hkm with hkm|hkm
        ·exact List.mem_append_left _ (h.new k hkm)
        ·exact List.mem_append_right _ hkm
    · have hw:=Z1H hlk h.env hlt w1
      refine Z40 hn hO hodd hst hrc hE0 l _ (pend++[i]) E1 T1 B sts recs k out _ tm1 hd1 hs (h.step ho hnd han hb htm henv w2 g1 ?_ g2 h.base h.sts (λk hk=>List.mem_append_left _ (h.new k hk)) (heff (by omega)) (λe=>(hne e).elim) (λ_ h=>h) h.recOk (λhk1=>by omega)) q2
      unfold Z4H
      simp only[ho,henv,hnd,Y03,if_false,hk,hw]
  · have hne : rc = false -> False := fun e => by
     rw[hrc]at e
     have:=Z4B e o (Y0b ho)
     omega
    rw[hk]at hc hs
    simp only[Y01]at hs
    obtain⟨hpend,hs⟩:=hs
    cases hcl:clk gl d n (looks ops o) with
    |none=>rw[hcl]at hc;cases hc
    |some L =>
    rw[hcl]at hc
    replace hc:iff' (ltL T.sz (L E)) (stp forc E T λE' T'=>iff' (Nat.ble T.sz T'.sz) (ZbL P gl d n ops (Z0R ops []) rc forc l E' T' T' (Zhf sts [(i,B)]) recs k) none) none=some out:=hc
    obtain⟨c1,c2⟩:=Z04 hc
    obtain⟨E1,T1,tm1,H1,g1,g2,g3,g4⟩:=hstep forc orc E T _ out s.heap tmc hO h.heap h.env c2
    obtain⟨q1,q2⟩:=Z04 g3
    rw[Z63]at q2
    have hrefs:Z0e s.heap.length (Z1d env [])=true:=Z5s (Z8E (λt v hm=>by
     obtain⟨t',h1,h2⟩:=hvl t v hm
     subst h2
     rw[<- h.heap.sz];exact ZfN c1 _ (Zh6 hcl E t' h1)) [] (by simp))
    have hbits:Z4c ((Z0R ops []).getD i 0) s.new=true:=Zbr λk hkm=>Z3B hpend k (h.new k hkm)
    have hgate:(Z4c ((Z0R ops []).getD i 0) s.new&&Z0e s.heap.length (Z1d env []))=true:=by rw[hrefs,hbits];rfl
    have heff3:Z0f (s.sts++[(i,s.base,s.new)])=Zcs ops (l1++[i]):=by
     rw[Z2D,h.effs,Z4F]
     simp[Zcs,ho,hk]
    rcases g4 with ⟨w1,r,w2,w3⟩|⟨w1,w2,rfl⟩
    · have hw:=Z1H hlk h.env hlt w1
      have a2:aop P orc (Z0G gl env) o s.heap=some (r,H1):=by rw[Zhj hρ];exact w2
      have hle:Nat.ble s.heap.length H1.length=true:=by rw[<- h.heap.sz,<- g2.sz];exact q1
      refine Z40 hn hO hodd hst hrc hE0 l _ [] E1 T1 T1 _ recs k out _ tm1 hd1 hs (h.step ho hnd han hb htm henv w3 g1 ?_ g2 g2 (StsRel.snoc h.base h.sts) (new:=[]) (by simp) heff3 (λe=>(hne e).elim) (λ_ h=>h) h.recOk (λhk1=>by omega)) q2
      unfold Z4H
      simp only[ho,henv,hnd,Y03,if_false,hk,hgate,hw,if_true,a2,Z1z,hle]
    · have hw:=Z1H hlk h.env hlt w1
      refine Z40 hn hO hodd hst hrc hE0 l _ [] E1 T1 T1 _ recs k out _ tm1 hd1 hs (h.step ho hnd han hb htm henv w2 g1 ?_ g2 g2 (StsRel.snoc h.base h.sts) (new:=[]) (by simp) heff3 (λe=>(hne e).elim) (λ_ h=>h) h.recOk (λhk1=>by omega)) q2
      unfold Z4H
      simp only[ho,henv,hnd,Y03,if_false,hk,hgate,hw,if_true]
theorem ZiJ (hn : n <= 8 ^ d) (hO : Z1F forc orc) {E : Tre AV d} {T : TH} {k : Tre AV d -> TH -> Res} {out : AV × TH} {H : Z00} (hR : Rep T H) (hE : EnvSim d n E tm) (h : Zlj P gl d n ops forc E T k = some out) :
  ∃E' T' tm' H',Z6D P gl orc ops tm H=some (tm',H')/\EnvSim d n E' tm'/\Rep T' H'/\k E' T'=some out:=by
 obtain⟨hodd,h⟩:=Z04 (show iff' (Zek P ops) (iff' (dOK n ops (Z0R ops [])) (ZbL P gl d n ops (Z0R ops []) (Z7H ops) forc (Z7o ops (Z0R ops [])) E T T [] [] k) none) none=some out from h)
 obtain⟨hst,h2⟩:=Z04 (show iff' (dOK n ops (Z0R ops [])) (ZbL P gl d n ops (Z0R ops []) (Z7H ops) forc (Z7o ops (Z0R ops [])) E T T [] [] k) none=some out from h)
 have hst':=hst
 unfold dOK at hst'
 obtain⟨s1,hst'⟩:=Z0F hst'
 obtain⟨s2,hst'⟩:=Z0F hst'
 obtain⟨s3,hst'⟩:=Z0F hst'
 refine Z40 hn hO hodd hst rfl hE (Z7o ops (Z0R ops [])) [] [] E T T [] [] k out ⟨Z0Y ops,0,H,[],H,[]⟩ tm rfl s3 ⟨rfl,VInv.start ops _ tm,hE,hR,hR,trivial,by simp,by simp[Z0f,Zcs],λ_=>⟨rfl,rfl,rfl⟩,by simp,λj o hj=>(by rw[Z1c]at hj;cases hj)⟩ h2
end main
end Go.Abs
end
section
namespace Go.Abs
open Go.RowKit
section code
variable (P:Program) (gl:Glob) (d n fuel:Nat)
noncomputable def Zgb(forc:Z5z)(c:Code):(Tre AV d->TH->Res)->(Nat->Tre AV d->TH->Res)->(Tre AV d->TH->Res)->Tre AV d->TH->Res :=
 Code.rec (motive:=λ_=>(Tre AV d->TH->Res)->(Nat->Tre AV d->TH->Res)->(Tre AV d->TH->Res)->Tre AV d->TH->Res)
  (λkn _ _ E T=>kn E T)
  (λ_ ops draw kn _ _ E T=>iff' draw (Zlj P gl d n ops.toList forc E T kn) (Znr P gl d n ops.toList forc ops.toList E T kn))
  (λ_ _ iha ihb kn kx kr E T=>iha (λE T=>ihb kn kx kr E T) kx kr E T)
  (λx _ _ iha ihb kn kx kr E T=>Option.rec none (λg=>Z2G (g E) (λv=>iff' v (iha kn kx kr E T) (ihb kn kx kr E T)) none) (Z0E gl d n x))
  (λid _ ih kn kx kr E T=>ih kn (λid' E T=>iff' (Y00 id' id) (kn E T) (kx id' E T)) kr E T)
  (λ_ ih kn kx kr E T=>Nat.rec (motive:=λ_=>Tre AV d->TH->Res) (λ_ _=>none) (λ_ again E T=>ih again kx kr E T) fuel E T)
  (λ_ _ _ _ _ _ _ _ _ _ _=>none)
  (λid _ kx _ E T=>kx id E T)
  (λ_ ih kn kx kr E T=>ih kn kx kr E T)
  (λ_ kn _ _ E T=>kn E T)
  (λ_ _ _ _ _ _=>none)
  (λ_ _ kr E T=>kr E T)
  (λ_ _ _ _ _ _=>none) c
noncomputable def ZlD:List ResultVar->Option (Tre AV d->TH->(List AV->Res)->Res)
 |[]=>some λ_ _ f=>f []
 | .tmp t::l=>match Z0E gl d n (.tmp t),ZlD l with|some g,some G=>some λE T f=>frc1 (g E) λv=>G E T λvs=>f (v::vs)|_,_=>none
 | .cell a t::l=>match Z0E gl d n (.tmp a),ZlD l,Z3K P t,tsz P t with
  |some g,some G,some false,_=>some λE T f=>onPtr (g E) (λb off=>Z1f (T.get b) (λ_ _ cs _=>ZjL cs off (λv=>G E T λvs=>f (v::vs)) none) none) (λ_=>none) none
  |some g,some G,some true,some m=>some λE T f=>onPtr (g E) (λb off=>Z1f (T.get b) (λ_ _ cs _=>tkR m (Z8l cs off) (λv=>G E T λvs=>f (.agg v::vs)) none) none) (λ_=>none) none
  |_,_,_,_=>none
noncomputable def Znn(l:List AV):AV:=List.rec (.tuple []) (λv m _=>List.rec v (λ_ _ _=>.tuple l) m) l
noncomputable def ZfI(d n:Nat)(args:List AV):Nat->Tre AV d->(Tre AV d->Res)->Res :=
 List.rec (motive:=λ_=>Nat->Tre AV d->(Tre AV d->Res)->Res) (λ_ E f=>f E) (λv _ ih i E f=>iff' (Nat.blt i n) (Bx.rec (λp=>frc1 v λv=>p v E λE'=>ih (Nat.succ i) E' f) (ZkB AV Res d i)) none) args
noncomputable def Zo4(n:Nat):Nat:=iff' (Nat.ble n 8) 1 (iff' (Nat.ble n 64) 2 (iff' (Nat.ble n 512) 3 4))
noncomputable def Zgc(P:Program)(gl:Glob)(fuel:Nat)(f:Nat):Option (Z5z->List AV->TH->Res) :=
 match P.funcs[f]? with
 |some fn=>match fn.body with
  |some c=>Z0S fn.ntmps λn=>Z0S (Zo4 n) λd=>iff' (Nat.ble n (8 ^ d)) (iff' (Nat.ble n 4096) (match ZlD P gl d n fn.results.toList with
   |some G=>some λforc args T=>ZfI d n args 0 (Z1j (.tuple []) d) λE=>Zgb P gl d n fuel forc c (λE T=>G E T λvs=>some (Znn vs,T)) (λ_ _ _=>none) (λE T=>G E T λvs=>some (Znn vs,T)) E T
   |none=>none) none) none
  |none=>none
 |none=>none
end code
section ok
variable {P:Program} {gl:Glob} {d n fuel:Nat} {forc:Z5z} {orc:Orc}
def ZoB{d:Nat}(x:AEx)(kn:Tre AV d->TH->Res)(kx:Nat->Tre AV d->TH->Res)(kr:Tre AV d->TH->Res)(E:Tre AV d)(T:TH):Res:=match x with
 | .normal=>kn E T
 | .exit id=>kx id E T
 | .ret=>kr E T
def Zk6(P:Program)(gl:Glob)(d n fuel:Nat)(orc:Orc)(c:Code)(F:(Tre AV d->TH->Res)->(Nat->Tre AV d->TH->Res)->(Tre AV d->TH->Res)->Tre AV d->TH->Res):Prop :=
 ∀kn kx kr E T out H tm,Rep T H->EnvSim d n E tm->F kn kx kr E T=some out->∃x E' T' tm' H',Z0A P gl orc fuel c tm H=some (x,tm',H')/\EnvSim d n E' tm'/\Rep T' H'/\ZoB x kn kx kr E' T'=some out
theorem Zde {b : Code} {F : (Tre AV d -> TH -> Res) -> (Nat -> Tre AV d -> TH -> Res) -> (Tre AV d -> TH -> Res) -> Tre AV d -> TH -> Res} (hF : Zk6 P gl d n fuel orc b F) {kn : Tre AV d -> TH -> Res} {kx : Nat -> Tre AV d -> TH -> Res} {kr : Tre AV d -> TH -> Res} {out : AV × TH} :
  ∀(m:Nat)(E:Tre AV d)(T:TH)(H:Z00)(tm:Tr),Rep T H->EnvSim d n E tm->(Nat.rec (motive:=λ_=>Tre AV d->TH->Res) (λ_ _=>none) (λ_ again E T=>F again kx kr E T) m E T:Res)=some out ->
   ∃x E' T' tm' H',Z9J (Z0A P gl orc fuel b) m tm H=some (x,tm',H')/\EnvSim d n E' tm'/\Rep T' H'/\ZoB x kn kx kr E' T'=some out
 |0,E,T,H,tm,hR,hE,h=>by cases h
 |m+1,E,T,H,tm,hR,hE,h=>by
  obtain⟨x,E1,T1,tm1,H1,g1,g2,g3,g4⟩:=hF _ kx kr E T out H tm hR hE h
  cases x with
  |normal =>
   obtain⟨x2,E2,T2,tm2,H2,k1,k2,k3,k4⟩:=Zde hF m E1 T1 H1 tm1 g3 g2 g4
   exact⟨x2,E2,T2,tm2,H2,by simp only[Z9J,g1,k1],k2,k3,k4⟩
  |exit id=>exact⟨.exit id,E1,T1,tm1,H1,by simp only[Z9J,g1],g2,g3,g4⟩
  |ret=>exact⟨.ret,E1,T1,tm1,H1,by simp only[Z9J,g1],g2,g3,g4⟩
theorem Z2L(hn:n<=8 ^ d)(hO:Z1F forc orc):∀c:Code,Zk6 P gl d n fuel orc c (Zgb P gl d n fuel forc c)
 | .skip=>λkn kx kr E T out H tm hR hE h=>⟨.normal,E,T,tm,H,rfl,hE,hR,h⟩
 | .region id ops draw=>λkn kx kr E T out H tm hR hE h=>by
  rcases Z0I (show iff' draw (Zlj P gl d n ops.toList forc E T kn) (Znr P gl d n ops.toList forc ops.toList E T kn)=some out from h)with ⟨rfl,h⟩|⟨rfl,h⟩
  · obtain⟨E',T',tm',H',g1,g2,g3,g4⟩:=ZiJ hn hO hR hE h
    exact⟨.normal,E',T',tm',H',by simp[Z0A,g1],g2,g3,g4⟩
  · obtain⟨E',T',tm',H',g1,g2,g3,g4⟩:=Zg0 hn hO ops.toList E T kn out H tm hR hE h
    exact⟨.normal,E',T',tm',H',by simp[Z0A,g1],g2,g3,g4⟩
 | .seq a b=>λkn kx kr E T out H tm hR hE h=>by
  obtain⟨x,E1,T1,tm1,H1,g1,g2,g3,g4⟩:=Z2L hn hO a (λE T=>Zgb P gl d n fuel forc b kn kx kr E T) kx kr E T out H tm hR hE h
  cases x with
  |normal =>
   obtain⟨x2,E2,T2,tm2,H2,k1,k2,k3,k4⟩:=Z2L hn hO b kn kx kr E1 T1 out H1 tm1 g3 g2 g4
   exact⟨x2,E2,T2,tm2,H2,by simp only[Z0A,g1,k1],k2,k3,k4⟩
  |exit id=>exact⟨.exit id,E1,T1,tm1,H1,by simp only[Z0A,g1],g2,g3,g4⟩
  |ret=>exact⟨.ret,E1,T1,tm1,H1,by simp only[Z0A,g1],g2,g3,g4⟩
 | .cond x a b=>λkn kx kr E T out H tm hR hE h=>by
  have h:(Option.rec none (λg=>Z2G (g E) (λv=>iff' v (Zgb P gl d n fuel forc a kn kx kr E T) (Zgb P gl d n fuel forc b kn kx kr E T)) none) (Z0E gl d n x):Res)=some out:=h
  cases hx:Z0E gl d n x with
  |none=>rw[hx]at h;cases h
  |some g =>
   rw[hx]at h
   rcases Z2m h with ⟨v,e,h⟩|⟨_,h⟩<;>try (cases h;done)
   have hev:Z1E gl tm x=some (.bool v):=by rw[<- Z9y hE,Z05 hx,e]
   cases v with
   |true =>
    obtain⟨x2,E2,T2,tm2,H2,k1,k2,k3,k4⟩:=Z2L hn hO a kn kx kr E T out H tm hR hE h
    exact⟨x2,E2,T2,tm2,H2,by simp only[Z0A,hev,k1],k2,k3,k4⟩
   |false =>
    obtain⟨x2,E2,T2,tm2,H2,k1,k2,k3,k4⟩:=Z2L hn hO b kn kx kr E T out H tm hR hE h
    exact⟨x2,E2,T2,tm2,H2,by simp only[Z0A,hev,k1],k2,k3,k4⟩
 | .block id b=>λkn kx kr E T out H tm hR hE h=>by
  obtain⟨x,E1,T1,tm1,H1,g1,g2,g3,g4⟩:=Z2L hn hO b kn (λid' E T=>iff' (Y00 id' id) (kn E T) (kx id' E T)) kr E T out H tm hR hE h
  cases x with
  |normal=>exact⟨.normal,E1,T1,tm1,H1,by simp only[Z0A,g1],g2,g3,g4⟩
  |exit id' =>
   rcases Z0I (show iff' (Y00 id' id) (kn E1 T1) (kx id' E1 T1)=some out from g4)with ⟨e,g4⟩|⟨e,g4⟩
   ·exact⟨.normal,E1,T1,tm1,H1,by simp only[Z0A,g1,e,if_true],g2,g3,g4⟩
   ·exact⟨.exit id',E1,T1,tm1,H1,by simp only[Z0A,g1,e,Y03,if_false],g2,g3,g4⟩
  |ret=>exact⟨.ret,E1,T1,tm1,H1,by simp only[Z0A,g1],g2,g3,g4⟩
 | .loop b=>λkn kx kr E T out H tm hR hE h=>by
  obtain⟨x,E1,T1,tm1,H1,g1,g2,g3,g4⟩:=Zde (kn:=kn) (Z2L hn hO b) fuel E T H tm hR hE h
  exact⟨x,E1,T1,tm1,H1,by simp only[Z0A,g1],g2,g3,g4⟩
 | .rangeFunc ..=>λkn kx kr E T out H tm hR hE h=>by cases h
 | .exit id=>λkn kx kr E T out H tm hR hE h=>⟨.exit id,E,T,tm,H,rfl,hE,hR,h⟩
 | .scope b=>λkn kx kr E T out H tm hR hE h=>by
  obtain⟨x,E1,T1,tm1,H1,g1,g2,g3,g4⟩:=Z2L hn hO b kn kx kr E T out H tm hR hE h
  exact⟨x,E1,T1,tm1,H1,by simp only[Z0A,g1],g2,g3,g4⟩
 | .label _=>λkn kx kr E T out H tm hR hE h=>⟨.normal,E,T,tm,H,rfl,hE,hR,h⟩
 | .goto ..=>λkn kx kr E T out H tm hR hE h=>by cases h
 | .ret=>λkn kx kr E T out H tm hR hE h=>⟨.ret,E,T,tm,H,rfl,hE,hR,h⟩
 | .refuse ..=>λkn kx kr E T out H tm hR hE h=>by cases h
theorem Za5{t:Nat}{g:Tre AV d->AV}(hg:Z0E gl d n (.tmp t)=some g){E:Tre AV d}{tm:Tr}(hE:EnvSim d n E tm):Z11 tm t=some (g E):=by
 have:=Z05 (E:=E) hg
 rw[Z9y hE]at this
 exact this
theorem Za4{E:Tre AV d}{T:TH}{H:Z00}{tm:Tr}(hR:Rep T H)(hE:EnvSim d n E tm){out:AV×TH}:∀(l:List ResultVar)(G:Tre AV d->TH->(List AV->Res)->Res),ZlD P gl d n l=some G->∀f,G E T f=some out->∃vs,Z2w P tm H l=some vs/\f vs=some out
 |[],G,h,f,hf=>by simp[ZlD]at h;subst h;exact⟨[],rfl,hf⟩
 | .tmp t::l,G,h,f,hf=>by
  simp only[ZlD]at h
  split at h<;>simp at h
  rename_i g G' hg hG
  subst h
  simp only[Z0o]at hf
  obtain⟨vs,h1,h2⟩:=Za4 hR hE l G' hG _ hf
  exact⟨g E::vs,by simp[Z2w,Za5 hg hE,h1],h2⟩
 | .cell a t::l,G,h,f,hf=>by
  simp only[ZlD]at h
  split at h<;>simp at h
  · rename_i w g G' hg hG ht
    subst h
    rcases Z1l hf with ⟨b,off,e,hf⟩|⟨_,_,hf⟩|hf<;>try (cases hf;done)
    replace hf:Z1f (T.get b) _ none=some out:=hf
    obtain⟨fam,sh,cs,ty,e2,hf⟩:=Z13 hf
    have e2:T.get b=⟨true,fam,sh,.cells cs ty⟩:=e2
    obtain⟨v,h1,hf⟩:=Z3X hf
    obtain⟨vs,h3,h4⟩:=Za4 hR hE l G' hG _ hf
    have hH:=hR.obj b (by rw[e2])
    rw[e2]at hH
    exact⟨v::vs,by simp[Z2w,Za5 hg hE,e,Z66,ht,rd,hH,Z8q h1,h3],h4⟩
  · rename_i g G' m hg hG ht hm
    subst h
    rcases Z1l hf with ⟨b,off,e,hf⟩|⟨_,_,hf⟩|hf<;>try (cases hf;done)
    replace hf:Z1f (T.get b) _ none=some out:=hf
    obtain⟨fam,sh,cs,ty,e2,hf⟩:=Z13 hf
    have e2:T.get b=⟨true,fam,sh,.cells cs ty⟩:=e2
    obtain⟨v,h1,hf⟩:=Z4Y hf
    rw[Z1R]at h1
    obtain⟨vs,h3,h4⟩:=Za4 hR hE l G' hG _ hf
    have hH:=hR.obj b (by rw[e2])
    rw[e2]at hH
    exact⟨.agg v::vs,by simp[Z2w,Za5 hg hE,e,Z66,ht,hm,rd,hH,h1,h3],h4⟩
theorem ZaO(hn:n<=8 ^ d){f:Tre AV d->Res}{out:AV×TH}:∀(args:List AV)(i:Nat)(E:Tre AV d),ZfI d n args i E f=some out->(args=[]\/i+args.length<=n)/\∃E',f E'=some out/\∀t,t<n->some (Z2z d t E')=if t<i then some (Z2z d t E) else match args[t-i]? with|some v=>some v|none=>some (Z2z d t E)
 |[],i,E,h=>⟨.inl rfl,E,h,λt ht=>by simp⟩
 |v::l,i,E,h=>by
  obtain⟨h1,h2⟩:=Z04 (show iff' (Nat.blt i n) (frc1 v λv=>(ZkB AV Res d i).v v E λE'=>ZfI d n l (i+1) E' f) none=some out from h)
  have hi:i<n:=by simpa[Y09]using h1
  rw[Z0o,Zc3]at h2
  obtain⟨h3,E',h4,h5⟩:=ZaO hn l (i+1) _ h2
  refine⟨.inr ?_,E',h4,λt ht=>?_⟩
  · rcases h3 with rfl|h3
    ·simp;omega
    ·simp only[Y0c];omega
  · rw[h5 t ht]
    by_cases hlt:t<i
    ·rw[if_pos (by omega),if_pos hlt,Z3O d i t v E (by omega) (by omega),if_neg (by omega)]
    · rw[if_neg hlt]
      by_cases e:t=i
      · subst e
        rw[if_pos (by omega),Z3O d t t v E (by omega) (by omega),if_pos rfl]
        simp
      ·rw[if_neg (by omega),show t-i=(t-(i+1))+1 from by omega,List.getElem?_cons_succ,Z3O d i t v E (by omega) (by omega),if_neg e]
theorem Zfc:∀(k m:Nat),m<2 ^ k->m<2 ^ Z8t k m
 |0,m,h=>by simp[Z8t];simpa using h
 |k+1,0,h=>by simp[Z8t]
 |k+1,m+1,h=>by
  simp only[Z8t]
  have hd:Nat.div (Nat.succ m) 2=(m+1) / 2:=rfl
  rw[hd]
  have:=Zfc k ((m+1) / 2) (by rw[Nat.pow_succ]at h;omega)
  show m+1<2 ^ (Z8t k ((m+1) / 2)+1)
  rw[Nat.pow_succ];omega
theorem Zgn{args:List AV}{E:Tre AV d}(hl:args.length<=n)(h4:n<=4096)(h:∀t,t<n->some (Z2z d t E)=match args[t]? with|some v=>some v|none=>some (.tuple [])):EnvSim d n E (tmk (Z9i args n args.length) (Z8t 20 n)):=by
 intro t
 by_cases ht:t<n
 · rw[if_pos ht,Z9g _ _ _ (by have:=Zfc 20 n (by omega);omega),h t ht]
   unfold Z9i
   cases args[t]? with
   |some v=>rfl
   |none =>
    have:Nat.blt t n=true:=by simpa[Y09]using ht
    simp only[this,if_true]
 · rw[if_neg ht]
   cases hq:Z11 (tmk (Z9i args n args.length) (Z8t 20 n)) t with
   |none=>rfl
   |some u =>
    have:=Z9h _ _ _ _ hq
    unfold Z9i at this
    have ha:args[t]? = none:=List.getElem?_eq_none (by omega)
    have hb:Nat.blt t n=false:=by cases hb:Nat.blt t n with|false=>rfl|true=>exact absurd (by simpa[Y09]using hb) ht
    rw[ha,hb]at this
    simp at this
theorem ZiK(hO:Z1F forc orc){f:Nat}{run:Z5z->List AV->TH->Res}(hf:Zgc P gl fuel f=some run){args:List AV}{T T':TH}{r:AV}{H:Z00}(hR:Rep T H)(h:run forc args T=some (r,T')):∃H',Za8 P gl orc fuel f args H=some (r,H')/\Rep T' H':=by
 unfold Zgc at hf
 split at hf<;>try (simp at hf;done)
 rename_i fn hfn
 split at hf<;>try (simp at hf;done)
 rename_i c hc
 rw[Z0X,Z0X]at hf
 obtain⟨hn1,hf⟩:=Z04 hf
 obtain⟨hn2,hf⟩:=Z04 hf
 split at hf<;>simp at hf
 rename_i G hG
 subst hf
 have hn:=Nat.le_of_ble_eq_true hn1
 have hn4:=Nat.le_of_ble_eq_true hn2
 obtain⟨hl,E,h1,h2⟩:=ZaO hn args 0 _ h
 have hl':args.length<=fn.ntmps:=by rcases hl with rfl|hl;simp;omega
 have hE:=Zgn (args:=args) (E:=E) hl' hn4 λt ht=>by
  rw[h2 t ht,if_neg (by omega),Nat.sub_zero]
  cases args[t]? with
  |some v=>rfl
  |none=>simp only[Z8s]
 obtain⟨x,E1,T1,tm1,H1,g1,g2,g3,g4⟩:=Z2L hn hO c _ _ _ E T (r,T') H _ hR hE h1
 have hfin:(G E1 T1 λvs=>some (Znn vs,T1))=some (r,T')->∃vs,Z2w P tm1 H1 fn.results.toList=some vs/\Znn vs=r/\T1=T':=by
  intro hg
  obtain⟨vs,k1,k2⟩:=Za4 g3 g2 _ _ hG _ hg
  simp at k2
  exact⟨vs,k1,k2.1,k2.2⟩
 refine⟨H1,?_,?_⟩
 · simp only[Za8,hfn,hc,frcVL_eq,Z7M,g1]
   cases x with
   |normal =>
    obtain⟨vs,k1,k2,_⟩:=hfin g4
    simp only
    rw[k1,<- k2]
    match vs with
    |[]=>rfl
    |[v]=>rfl
    |v::w::l=>rfl
   |exit id=>cases g4
   |ret =>
    obtain⟨vs,k1,k2,_⟩:=hfin g4
    simp only
    rw[k1,<- k2]
    match vs with
    |[]=>rfl
    |[v]=>rfl
    |v::w::l=>rfl
 · cases x with
   |normal=>obtain⟨vs,_,_,rfl⟩:=hfin g4;exact g3
   |exit id=>cases g4
   |ret=>obtain⟨vs,_,_,rfl⟩:=hfin g4;exact g3
def ZeV(l:List (Nat×List AV)):Orc:=λf args H=>if Zmb f args l then some (.bool true,H) else none
theorem ZcX:OrcSound P gl (ZeV []):=by
 intro f args H r H' h
 simp[ZeV,Zmb]at h
theorem Zfd{l:List (Nat×List AV)}(hl:OrcSound P gl (ZeV l)){f:Nat}{az:List AV}(hrefs:refsL az []=[]){orc:Orc}(hO:OrcSound P gl orc){H1:Z00}(h:orc f az []=some (.bool true,H1)):OrcSound P gl (ZeV ((f,az)::l)):=by
 intro g args H r H' hg
 simp only[ZeV]at hg
 split at hg<;>simp at hg
 obtain⟨rfl,rfl⟩:=hg
 rename_i hmem
 simp only[Zmb,Y0f,Y01]at hmem
 rcases hmem with ⟨hm1,hm2⟩|hm'
 · have:=Y05 hm1;subst this
   have:=veqL_eq _ _ hm2;subst this
   intro sn ι W cargs hgl hR ha
   have ha':LR sn noI args cargs:=LR_refs args [] cargs (λb hb=>by rw[hrefs]at hb;simp at hb) ha
   have hR':R sn noI [] W:=⟨λb=>by simp[noI],λb p hp=>by simp[noI]at hp,λb o p hb=>by simp at hb,λb b' o o' p p' hb=>by simp at hb,λa v hv=>by
    obtain⟨h1,h2,_⟩:=hR.snap a v hv
    exact⟨h1,h2,λb o p hb=>by simp at hb⟩,λb o p hb=>by simp at hb⟩
   refine (hO g args [] _ _ h sn noI W cargs hgl hR' ha').mono ?_
   rintro e W' ⟨v,sn',ι',rfl,hv,hs⟩
   have hext:Ext W W':=⟨λc hc=>hs.frame c hc λb o p hb=>by simp at hb,hs.size,hs.os,hs.tape,hs.output⟩
   refine⟨v,sn,ι,rfl,?_,Stp.ext hR hext⟩
   simpa[VR]using hv
 ·exact hl g args H (.bool true) H (by simp[ZeV,hm'])
noncomputable def Z9u(r:Res):Bool:=Option.rec false (λp=>Prod.rec (λv _=>Z2G v (λb=>b) false) p) r
theorem Z9t{r:Res}(h:Z9u r=true):∃T,r=some (.bool true,T):=by
 cases r with
 |none=>cases h
 |some p =>
  obtain⟨v,T⟩:=p
  have h:Z2G v (λb=>b) false=true:=h
  rcases Z3W v (λb=>b) false with ⟨b,rfl,e⟩|⟨_,e⟩<;>rw[e]at h
  ·subst h;exact⟨T,rfl⟩
  ·cases h
end ok
end Go.Abs
end
section
namespace Go.Abs
open Go.RowKit
def onO{α : Type}(o:Option α)(k : α -> Prop):Prop:=match o with|some v=>k v|none=>False
theorem Z01{α : Type}{o:Option α}{k : α -> Prop}(h:onO o k):∃v,o=some v/\k v:=by
 cases o with
 |none=>exact h.elim
 |some v=>exact⟨v,rfl,h⟩
section W
variable (P:Program)
def rdW(H:Z00)(a:AV)(n:Nat)(k:List AV->Prop):Prop :=
 match a with
 | .ptr b off=>onO H[b]? λo=>match o.alive,o.body with
  |true,.cells cs _=>∃r,tk n (cs.drop off)=some r/\k r
  |_,_=>False
 | .rp cs=>∃r,tk n cs=some r/\k r
 |_=>False
theorem Zjr{H:Z00}{a:AV}{n:Nat}{k:List AV->Prop}(h:rdW H a n k):∃r,rd H a n=some r/\k r:=by
 unfold rdW at h
 unfold rd
 split at h
 · rename_i b off
   obtain⟨o,ho,h⟩:=Z01 h
   simp only[ho]
   split at h
   ·rename_i e1 e2;simp only[e1,e2];exact h
   ·exact h.elim
 ·exact h
 ·exact h.elim
def ZkR(t:TypeId)(a:AV)(H:Z00)(k:AV->Prop):Prop :=
 match Z3K P t with
 |some true=>onO (tsz P t) λn=>rdW H a n λcs=>k (.agg cs)
 |some false=>rdW H a 1 λcs=>match cs with|[c]=>frc1 c k|_=>False
 |none=>False
theorem Zij{t:TypeId}{a:AV}{H:Z00}{k:AV->Prop}(h:ZkR P t a H k):∃r,Z66 P t a H=some r/\k r:=by
 unfold ZkR at h
 unfold Z66
 split at h
 · rename_i e
   obtain⟨n,hn,h⟩:=Z01 h
   obtain⟨cs,h1,h2⟩:=Zjr h
   simp only[e,hn,h1];exact⟨_,rfl,h2⟩
 · rename_i e
   obtain⟨cs,h1,h2⟩:=Zjr h
   simp only[e,h1]
   split at h2
   ·rw[Z0o]at h2;exact⟨_,rfl,h2⟩
   ·exact h2.elim
 ·exact h.elim
def Z9Z(e:TypeId->AV->AV->Option Bool)(P:Program):List (TypeId×Nat)->List AV->List AV->Option Bool
 |[],_,_=>some true
 |(t,off)::fs,xs,ys =>
  match Z64 P t xs off,Z64 P t ys off with
  |some a,some b=>match e t a b,Z9Z e P fs xs ys with
   |some x,some y=>some (x&&y)
   |_,_=>none
  |_,_=>none
def eqB(P:Program):Nat->TypeId->AV->AV->Option Bool
 |0,_,_,_=>none
 |d+1,t,x,y =>
  match x,y with
  | .agg xs,.agg ys=>match Z3w P t with|some fs=>Z9Z (eqB P d) P fs xs ys|none=>none
  |x,y=>aEq P (d+1) t x y
theorem Zdz{e e':TypeId->AV->AV->Option Bool}(he:∀t x y b,e t x y=some b->e' t x y=some b):∀(fs:List (TypeId×Nat))(xs ys:List AV)(b:Bool),Z9Z e P fs xs ys=some b->Zlq e' P fs xs ys=some b
 |[],xs,ys,b,h=>h
 |(t,off)::fs,xs,ys,b,h=>by
  simp only[Z9Z]at h
  simp only[Zlq]
  split at h<;>try (simp at h;done)
  rename_i a c ha hc
  split at h<;>simp at h
  rename_i x y hx hy
  simp only[ha,hc,he _ _ _ _ hx]
  cases x with
  |true=>simp at h;subst h;exact Zdz he fs xs ys _ hy
  |false=>simp at h;subst h;rfl
theorem ZjQ:∀(d:Nat)(t:TypeId)(x y:AV)(b:Bool),eqB P d t x y=some b->aEq P d t x y=some b
 |0,t,x,y,b,h=>by simp[eqB]at h
 |d+1,t,x,y,b,h=>by
  unfold eqB at h
  split at h
  · split at h<;>try (simp at h;done)
    rename_i fs hfs
    simp only[aEq,hfs]
    exact Zdz P (λt x y b h=>ZjQ d t x y b h) fs _ _ b h
  ·exact h
def ZcB(P:Program)(t:TypeId)(a b:List AV):Option Bool:=if P.eqGuardType P.depth t then none else eqB P 10000 t (.agg a) (.agg b)
def Zod(op:BinOp)(t:TypeId)(c:Bool)(u v:AV)(k:AV->Prop):Prop :=
 match u,v with
 | .int kx a,.int ky b=>match op with
  | .quo=>if kx=ky then b≠0/\k (.int kx (kx.wrap (a.tdiv b))) else False
  | .rem=>if kx=ky then b≠0/\k (.int kx (a.tmod b)) else False
  | .add=>if kx=ky then ∃n,kx.wrap (a+b)=n/\k (.int kx n) else False
  | .sub=>if kx=ky then ∃n,kx.wrap (a-b)=n/\k (.int kx n) else False
  | .mul=>if kx=ky then ∃n,kx.wrap (a*b)=n/\k (.int kx n) else False
  | .shl=>0<=b/\k (.int kx (kx.wrap (a*2 ^ (min b.toNat kx.bits))))
  | .shr=>0<=b/\k (.int kx (a.fdiv (2 ^ (min b.toNat kx.bits))))
  |op=>if kx=ky then onO (Z0L op kx a b) k else False
 | .str a,.str b=>match op with
  | .add=>a.length+b.length<=9223372036854775807/\k (.str (a++b))
  |op=>onO (Z4N op a b) k
 | .agg a,.agg b=>match op with
  | .eql=>∃r,ZcB P t a b=some r/\k (.bool r)
  | .neq=>∃r,ZcB P t a b=some r/\k (.bool !r)
  |_=>False
 |u,v=>onO (Z3F P op t c u v) k
theorem ZlV{op:BinOp}{t:TypeId}{c:Bool}{u v:AV}{k:AV->Prop}(h:Zod P op t c u v k):∃r,Z3F P op t c u v=some r/\k r:=by
 unfold Zod at h
 split at h
 · rename_i kx a ky b
   split at h
   · split at h
     ·rename_i e;subst e;exact⟨_,by simp[Z3F,Z68,Z0L,h.1],h.2⟩
     ·exact h.elim
   · split at h
     ·rename_i e;subst e;exact⟨_,by simp[Z3F,Z68,Z0L,h.1],h.2⟩
     ·exact h.elim
   · split at h
     ·rename_i e;subst e;obtain⟨n,rfl,h⟩:=h;exact⟨_,by simp[Z3F,Z68,Z0L],h⟩
     ·exact h.elim
   · split at h
     ·rename_i e;subst e;obtain⟨n,rfl,h⟩:=h;exact⟨_,by simp[Z3F,Z68,Z0L],h⟩
     ·exact h.elim
   · split at h
     ·rename_i e;subst e;obtain⟨n,rfl,h⟩:=h;exact⟨_,by simp[Z3F,Z68,Z0L],h⟩
     ·exact h.elim
   ·exact⟨_,by simp only[Z3F,Z68];rw[if_neg (by omega)],h.2⟩
   ·exact⟨_,by simp only[Z3F,Z68];rw[if_neg (by omega)],h.2⟩
   · rename_i o1 o2 o5 o6 o7 o3 o4
     split at h
     · rename_i e;subst e
       obtain⟨r,h1,h2⟩:=Z01 h
       refine⟨r,?_,h2⟩
       simp only[Z3F,Z68]
       cases op with
       |shl=>exact (o3 rfl).elim
       |shr=>exact (o4 rfl).elim
       |_=>simpa using h1
     ·exact h.elim
 · split at h
   ·exact⟨_,by simp[Z3F,Z68,Z4N,h.1],h.2⟩
   · obtain⟨r,h1,h2⟩:=Z01 h
     exact⟨r,by simp only[Z3F,Z68];exact h1,h2⟩
 · have key : ∀ {x y : List AV} {r : Bool}, ZcB P t x y = some r -> ¬ P.eqGuardType P.depth t = true /\ aEq P 10000 t (.agg x) (.agg y) = some r := by
    intro x y r h1
    unfold ZcB at h1
    split at h1
    ·cases h1
    ·rename_i hg;exact⟨hg,ZjQ P _ _ _ _ _ h1⟩
   split at h
   · obtain⟨r,h1,h2⟩:=h
     exact⟨_,by simp only[Z3F,Z68];rw[if_neg (key h1).1,(key h1).2],h2⟩
   · obtain⟨r,h1,h2⟩:=h
     exact⟨_,by simp only[Z3F,Z68];rw[if_neg (key h1).1,(key h1).2],h2⟩
   ·exact h.elim
 ·exact Z01 h
def ZnU(t:TypeId)(x i:AV)(k:AV->Prop):Prop :=
 match i with
 | .int _ i=>match P.underlying t with
  |some (.slice e)=>onO (tsz P e) λz'=>match x with
   | .slice b off len _ z=>∃j:Nat,(i=(j:Int)/\j<len)/\(if z'=z then k (.ptr b (off+j*z)) else False)
   | .rs n z cs=>∃j:Nat,(i=(j:Int)/\j<n)/\(if z'=z then k (.rp (cs.drop (j*z))) else False)
   |_=>False
  |some (.array n e)=>onO (tsz P e) λz=>∃j:Nat,(i=(j:Int)/\j<n)/\(match x with
   | .ptr b off=>k (.ptr b (off+j*z))
   | .rp cs=>k (.rp (cs.drop (j*z)))
   |_=>False)
  |_=>False
 |_=>False
theorem Zl2{t:TypeId}{x i:AV}{k:AV->Prop}(h:ZnU P t x i k):∃r,Z1O P t x i=some r/\k r:=by
 unfold ZnU at h
 unfold Z1O
 split at h
 · split at h
   · rename_i e
     obtain⟨z',hz,h1⟩:=Z01 h
     clear h
     simp only[e,hz]
     split at h1
     · obtain⟨j,⟨ej,hb⟩,h2⟩:=h1
       subst ej
       simp only
       rw[if_pos (by omega),Y0d]
       split at h2
       ·rename_i hq;rw[if_pos hq];exact⟨_,rfl,h2⟩
       ·exact h2.elim
     · obtain⟨j,⟨ej,hb⟩,h2⟩:=h1
       subst ej
       simp only
       rw[if_pos (by omega),Y0d]
       split at h2
       ·rename_i hq;rw[if_pos hq];exact⟨_,rfl,h2⟩
       ·exact h2.elim
     ·exact h1.elim
   · rename_i e
     obtain⟨z',hz,h1⟩:=Z01 h
     clear h
     simp only[e,hz]
     obtain⟨j,⟨ej,hb⟩,h2⟩:=h1
     subst ej
     rw[if_pos (by omega),Y0d]
     split at h2
     ·exact⟨_,rfl,h2⟩
     ·exact⟨_,rfl,h2⟩
     ·exact h2.elim
   ·exact h.elim
 ·exact h.elim
def ixW(t:TypeId)(x i:AV)(k:AV->Prop):Prop :=
 match i with
 | .int _ i=>match x with
  | .str s=>match P.underlying t with
   |some .string=>∃j:Nat,i=(j:Int)/\∃b,s[j]? = some b/\k (.int .u8 b.toNat)
   |_=>False
  | .agg cs=>match P.underlying t with
   |some (.array n e)=>onO (tsz P e) λz=>(0<=i/\i<(n:Int))/\∃r,Z64 P e cs (i.toNat*z)=some r/\k r
   |_=>False
  |_=>False
 |_=>False
theorem ZmG{t:TypeId}{x i:AV}{k:AV->Prop}(h:ixW P t x i k):∃r,Z9c P t x i=some r/\k r:=by
 unfold ixW at h
 unfold Z9c
 split at h
 · split at h
   · split at h
     · rename_i e
       obtain⟨j,rfl,b,h2,h3⟩:=h
       simp only[e]
       rw[if_pos (by omega),Y0d,h2];exact⟨_,rfl,h3⟩
     ·exact h.elim
   · split at h
     · rename_i e
       obtain⟨z,hz,hb,r,h1,h2⟩:=Z01 h
       simp only[e,hz]
       rw[if_pos hb];exact⟨r,h1,h2⟩
     ·exact h.elim
   ·exact h.elim
 ·exact h.elim
def ZeY(x:Option AV)(dflt top:Nat)(k:Nat->Prop):Prop :=
 match x with
 |none=>k dflt
 |some (.int _ i)=>∃j:Nat,(i=(j:Int)/\j<=top)/\k j
 |_=>False
theorem Z2V{x:Option AV}{d top:Nat}{k:Nat->Prop}(h:ZeY x d top k):∃n,bnd x d top=some n/\k n:=by
 unfold ZeY at h
 unfold bnd
 split at h
 ·exact⟨_,rfl,h⟩
 · obtain⟨j,⟨rfl,hb⟩,h⟩:=h
   simp only;rw[if_pos (by omega),Y0d];exact⟨_,rfl,h⟩
 ·exact h.elim
def Zfo(t:TypeId)(x:AV)(lo hi:Option AV)(k:AV->Prop):Prop :=
 match x with
 | .str s=>match P.underlying t with
  |some .string=>match lo,hi with
   |none,none=>k (.str s)
   |some lo,none=>ZeY (some lo) 0 s.length λl=>k (.str (s.drop l))
   |none,some hi=>ZeY (some hi) s.length s.length λh=>k (.str (s.take h))
   |some lo,some hi=>ZeY (some hi) s.length s.length λh=>ZeY (some lo) 0 h λl=>k (.str ((s.drop l).take (h-l)))
  |_=>False
 | .slice b off len cap z=>match P.underlying t with
  |some (.slice e)=>onO (tsz P e) λz'=>if z'=z then ZeY hi len cap λh=>ZeY lo 0 h λl=>k (.slice b (off+l*z) (h-l) (cap-l) z) else False
  |_=>False
 | .rs n z cs=>match P.underlying t with
  |some (.slice e)=>onO (tsz P e) λz'=>if z'=z then ZeY hi n n λh=>ZeY lo 0 h λl=>k (.rs (h-l) z ((cs.drop (l*z)).take ((h-l)*z))) else False
  |_=>False
 | .nslice=>match P.underlying t with
  |some (.slice e)=>onO (tsz P e) λ_=>ZeY hi 0 0 λh=>ZeY lo 0 h λl=>k .nslice
  |_=>False
 |_=>False
theorem Zfn{t:TypeId}{x:AV}{lo hi:Option AV}{k:AV->Prop}(h:Zfo P t x lo hi k):∃r,Z4w P t x lo hi=some r/\k r:=by
 unfold Zfo at h
 unfold Z4w
 split at h
 · split at h
   · rename_i e
     split at h
     ·simp only[e,bnd];exact⟨_,rfl,by simpa using h⟩
     · obtain⟨b,h2,h⟩:=Z2V h
       simp only[e]
       rw[show bnd none _ _=some _ from rfl]
       simp only[h2]
       exact⟨_,rfl,by rw[List.take_of_length_le (by simp)];exact h⟩
     · obtain⟨b,h2,h⟩:=Z2V h
       simp only[e,h2]
       rw[show bnd none 0 b=some 0 from rfl]
       exact⟨_,rfl,by simpa using h⟩
     · obtain⟨a,h1,h⟩:=Z2V h
       obtain⟨b,h2,h⟩:=Z2V h
       simp only[e,h1,h2];exact⟨_,rfl,h⟩
   ·exact h.elim
 · split at h
   · rename_i e
     obtain⟨z',hz,h⟩:=Z01 h
     split at h
     · rename_i ez
       obtain⟨a,h1,h⟩:=Z2V h
       obtain⟨b,h2,h⟩:=Z2V h
       simp only[e,hz];rw[if_pos ez];simp only[h1,h2];exact⟨_,rfl,h⟩
     ·exact h.elim
   ·exact h.elim
 · split at h
   · rename_i e
     obtain⟨z',hz,h⟩:=Z01 h
     split at h
     · rename_i ez
       obtain⟨a,h1,h⟩:=Z2V h
       obtain⟨b,h2,h⟩:=Z2V h
       simp only[e,hz];rw[if_pos ez];simp only[h1,h2];exact⟨_,rfl,h⟩
     ·exact h.elim
   ·exact h.elim
 · split at h
   · rename_i e
     obtain⟨z',hz,h⟩:=Z01 h
     obtain⟨a,h1,h⟩:=Z2V h
     obtain⟨b,h2,h⟩:=Z2V h
     simp only[e,hz,h1,h2];exact⟨_,rfl,h⟩
   ·exact h.elim
 ·exact h.elim
def Z6z(ρ : Operand->Option AV)(H:Z00)(o:Oper)(k:AV->Prop):Prop :=
 match o.op with
 | .move x=>onO (ρ x) λv=>frc1 v k
 | .assign x=>onO (ρ x) λv=>frc1 v k
 | .pick c a b=>onO (ρ c) λc=>match c with
  | .bool c=>(c=true->onO (ρ a) λv=>frc1 v k)/\(c=false->onO (ρ b) λv=>frc1 v k)
  |_=>False
 | .load t a=>onO (ρ a) λa=>ZkR P t a H k
 | .binOp op t x y _=>onO (ρ x) λu=>onO (ρ y) λv=>Zod P op t (isC x || isC y) u v k
 | .indexAddr t x i=>onO (ρ x) λu=>onO (ρ i) λv=>ZnU P t u v k
 | .index t x i=>onO (ρ x) λu=>onO (ρ i) λv=>ixW P t u v k
 | .slice t x lo hi none=>onO (ρ x) λu=>onO (Z65 ρ lo) λlo=>onO (Z65 ρ hi) λhi=>Zfo P t u lo hi k
 | .lookup t m key ok=>onO (ρ m) λm=>onO (ρ key) λkey=>∃r,Z4d P t m key ok H=some r/\k r
 | .convert s d _=>match Z8d P s d with
  |true=>∃r,Z02 P ρ H o=some r/\k r
  |false=>onO (Z02 P ρ H o) λr=>frc1 r k
 |_=>onO (Z02 P ρ H o) λr=>frc1 r k
theorem Z3o{ρ : Operand->Option AV}{H:Z00}{o:Oper}{k:AV->Prop}(h:Z6z P ρ H o k):∃r,Z02 P ρ H o=some r/\k r:=by
 unfold Z6z at h
 unfold Z02 Z0l
 split at h
 ·rename_i e;obtain⟨v,h1,h⟩:=Z01 h;rw[Z0o]at h;exact⟨v,by simp only[e];exact h1,h⟩
 ·rename_i e;obtain⟨v,h1,h⟩:=Z01 h;rw[Z0o]at h;exact⟨v,by simp only[e];exact h1,h⟩
 · rename_i e;obtain⟨c,h1,h⟩:=Z01 h
   split at h
   · rename_i c b'
     cases b' with
     |true=>obtain⟨v,h2,h⟩:=Z01 (h.1 rfl);rw[Z0o]at h;exact⟨v,by simp only[e,h1];exact h2,h⟩
     |false=>obtain⟨v,h2,h⟩:=Z01 (h.2 rfl);rw[Z0o]at h;exact⟨v,by simp only[e,h1];exact h2,h⟩
   ·exact h.elim
 ·rename_i e;obtain⟨v,h1,h⟩:=Z01 h;obtain⟨r,h2,h⟩:=Zij P h;exact⟨r,by simp only[e,h1];exact h2,h⟩
 ·rename_i e;obtain⟨u,h1,h⟩:=Z01 h;obtain⟨v,h2,h⟩:=Z01 h;obtain⟨r,h3,h⟩:=ZlV P h;exact⟨r,by simp only[e,h1,h2];exact h3,h⟩
 ·rename_i e;obtain⟨u,h1,h⟩:=Z01 h;obtain⟨v,h2,h⟩:=Z01 h;obtain⟨r,h3,h⟩:=Zl2 P h;exact⟨r,by simp only[e,h1,h2];exact h3,h⟩
 ·rename_i e;obtain⟨u,h1,h⟩:=Z01 h;obtain⟨v,h2,h⟩:=Z01 h;obtain⟨r,h3,h⟩:=ZmG P h;exact⟨r,by simp only[e,h1,h2];exact h3,h⟩
 ·rename_i e;obtain⟨u,h1,h⟩:=Z01 h;obtain⟨v,h2,h⟩:=Z01 h;obtain⟨x,h3,h⟩:=Z01 h;obtain⟨r,h4,h⟩:=Zfn P h;exact⟨r,by simp only[e,h1,h2,h3];exact h4,h⟩
 ·rename_i e;obtain⟨u,h1,h⟩:=Z01 h;obtain⟨v,h2,h⟩:=Z01 h;obtain⟨r,h3,h⟩:=h;exact⟨r,by simp only[e,h1,h2];exact h3,h⟩
 · rename_i e
   split at h
   · obtain⟨r,h1,h⟩:=h
     exact⟨r,by simpa only[Z02,Z0l]using h1,h⟩
   · obtain⟨r,h1,h⟩:=Z01 h
     rw[Z0o]at h
     exact⟨r,by simpa only[Z02,Z0l]using h1,h⟩
 · obtain⟨r,h1,h⟩:=Z01 h
   rw[Z0o]at h
   exact⟨r,by simpa only[Z02,Z0l]using h1,h⟩
noncomputable def frcNP(n:Nat)(k:Nat->Prop):Prop :=
 Nat.rec (motive:=λ_=>Prop) (k 0) (λm0 _=>Nat.rec (motive:=λ_=>Prop) (k 1) (λm1 _=>Nat.rec (motive:=λ_=>Prop) (k 2) (λm2 _=>Nat.rec (motive:=λ_=>Prop) (k 3) (λm3 _=>Nat.rec (motive:=λ_=>Prop) (k 4) (λm4 _=>Nat.rec (motive:=λ_=>Prop) (k 5) (λm5 _=>Nat.rec (motive:=λ_=>Prop) (k 6) (λm6 _=>Nat.rec (motive:=λ_=>Prop) (k 7) (λm7 _=>Nat.rec (motive:=λ_=>Prop) (k 8) (λm8 _=>Nat.rec (motive:=λ_=>Prop) (k 9) (λm9 _=>Nat.rec (motive:=λ_=>Prop) (k 10) (λm10 _=>Nat.rec (motive:=λ_=>Prop) (k 11) (λm11 _=>Nat.rec (motive:=λ_=>Prop) (k 12) (λm12 _=>Nat.rec (motive:=λ_=>Prop) (k 13) (λm13 _=>Nat.rec (motive:=λ_=>Prop) (k 14) (λm14 _=>Nat.rec (motive:=λ_=>Prop) (k 15) (λm15 _=>Nat.rec (motive:=λ_=>Prop) (k 16) (λm16 _=>Nat.rec (motive:=λ_=>Prop) (k 17) (λm17 _=>Nat.rec (motive:=λ_=>Prop) (k 18) (λm18 _=>Nat.rec (motive:=λ_=>Prop) (k 19) (λm19 _=>Nat.rec (motive:=λ_=>Prop) (k 20) (λm20 _=>Nat.rec (motive:=λ_=>Prop) (k 21) (λm21 _=>Nat.rec (motive:=λ_=>Prop) (k 22) (λm22 _=>Nat.rec (motive:=λ_=>Prop) (k 23) (λm23 _=>Nat.rec (motive:=λ_=>Prop) (k 24) (λm24 _=>Nat.rec (motive:=λ_=>Prop) (k 25) (λm25 _=>Nat.rec (motive:=λ_=>Prop) (k 26) (λm26 _=>Nat.rec (motive:=λ_=>Prop) (k 27) (λm27 _=>Nat.rec (motive:=λ_=>Prop) (k 28) (λm28 _=>Nat.rec (motive:=λ_=>Prop) (k 29) (λm29 _=>Nat.rec (motive:=λ_=>Prop) (k 30) (λm30 _=>Nat.rec (motive:=λ_=>Prop) (k 31) (λm31 _=>Nat.rec (motive:=λ_=>Prop) (k 32) (λm32 _=>Nat.rec (motive:=λ_=>Prop) (k 33) (λm33 _=>Nat.rec (motive:=λ_=>Prop) (k 34) (λm34 _=>Nat.rec (motive:=λ_=>Prop) (k 35) (λm35 _=>Nat.rec (motive:=λ_=>Prop) (k 36) (λm36 _=>Nat.rec (motive:=λ_=>Prop) (k 37) (λm37 _=>Nat.rec (motive:=λ_=>Prop) (k 38) (λm38 _=>Nat.rec (motive:=λ_=>Prop) (k 39) (λm39 _=>Nat.rec (motive:=λ_=>Prop) (k 40) (λm40 _=>Nat.rec (motive:=λ_=>Prop) (k 41) (λm41 _=>Nat.rec (motive:=λ_=>Prop) (k 42) (λm42 _=>Nat.rec (motive:=λ_=>Prop) (k 43) (λm43 _=>Nat.rec (motive:=λ_=>Prop) (k 44) (λm44 _=>Nat.rec (motive:=λ_=>Prop) (k 45) (λm45 _=>Nat.rec (motive:=λ_=>Prop) (k 46) (λm46 _=>Nat.rec (motive:=λ_=>Prop) (k 47) (λm47 _=>k (m47+48)) m46) m45) m44) m43) m42) m41) m40) m39) m38) m37) m36) m35) m34) m33) m32) m31) m30) m29) m28) m27) m26) m25) m24) m23) m22) m21) m20) m19) m18) m17) m16) m15) m14) m13) m12) m11) m10) m9) m8) m7) m6) m5) m4) m3) m2) m1) m0) n
theorem Z3v(n:Nat)(k:Nat->Prop):frcNP n k=k n:=match n with
 |0=>rfl
 |1=>rfl
 |2=>rfl
 |3=>rfl
 |4=>rfl
 |5=>rfl
 |6=>rfl
 |7=>rfl
 |8=>rfl
 |9=>rfl
 |10=>rfl
 |11=>rfl
 |12=>rfl
 |13=>rfl
 |14=>rfl
 |15=>rfl
 |16=>rfl
 |17=>rfl
 |18=>rfl
 |19=>rfl
 |20=>rfl
 |21=>rfl
 |22=>rfl
 |23=>rfl
 |24=>rfl
 |25=>rfl
 |26=>rfl
 |27=>rfl
 |28=>rfl
 |29=>rfl
 |30=>rfl
 |31=>rfl
 |32=>rfl
 |33=>rfl
 |34=>rfl
 |35=>rfl
 |36=>rfl
 |37=>rfl
 |38=>rfl
 |39=>rfl
 |40=>rfl
 |41=>rfl
 |42=>rfl
 |43=>rfl
 |44=>rfl
 |45=>rfl
 |46=>rfl
 |47=>rfl
 |n+48=>rfl
noncomputable def Z6V(v:AV)(k:AV->Prop):Prop :=
 match v with
 | .ptr b off=>frcNP b λb=>k (.ptr b off)
 | .slice b off len cap z=>frcNP b λb=>frcNP z λz=>k (.slice b off len cap z)
 | .map b=>frcNP b λb=>k (.map b)
 |v=>frc1 v k
theorem Z25(v:AV)(k:AV->Prop):Z6V v k=k v:=by
 unfold Z6V
 split<;>simp only[Z3v,Z0o]
noncomputable def frcHW:Z00->(Z00->Prop)->Prop
 |[],k=>k []
 |⟨al,fam,sh,.cells cs t⟩::l,k=>Zcl al λal=>frcNP fam λfam=>frcNP sh λsh=>frcHW l λl=>k (⟨al,fam,sh,.cells cs t⟩::l)
 |⟨al,fam,sh,.map es c⟩::l,k=>Zcl al λal=>frcNP fam λfam=>frcNP sh λsh=>frcHW l λl=>k (⟨al,fam,sh,.map es c⟩::l)
 |⟨al,fam,sh,.siter a b⟩::l,k=>Zcl al λal=>frcNP fam λfam=>frcNP sh λsh=>frcHW l λl=>k (⟨al,fam,sh,.siter a b⟩::l)
 |⟨al,fam,sh,.loop g ts⟩::l,k=>Zcl al λal=>frcNP fam λfam=>frcNP sh λsh=>frcHW l λl=>k (⟨al,fam,sh,.loop g ts⟩::l)
theorem Z07:∀(H:Z00)(k:Z00->Prop),frcHW H k=k H
 |[],k=>rfl
 |⟨al,fam,sh,.cells cs t⟩::l,k=>by simp only[frcHW,Z5g,Z3v,Z07 l]
 |⟨al,fam,sh,.map es c⟩::l,k=>by simp only[frcHW,Z5g,Z3v,Z07 l]
 |⟨al,fam,sh,.siter a b⟩::l,k=>by simp only[frcHW,Z5g,Z3v,Z07 l]
 |⟨al,fam,sh,.loop g ts⟩::l,k=>by simp only[frcHW,Z5g,Z3v,Z07 l]
noncomputable def wrW(H:Z00)(a:AV)(vs:List AV)(k:Z00->Prop):Prop :=
 match a with
 | .ptr b off=>onO H[b]? λo=>match o.alive,o.body with
  |true,.cells cs ty=>if vs.all one then ∃cs',spl cs off vs=some cs'/\frcHW ((Z30 b o.fam H).set b { o with body:=.cells cs' ty }) k else False
  |_,_=>False
 |_=>False
theorem Zmj{H:Z00}{a:AV}{vs:List AV}{k:Z00->Prop}(h:wrW H a vs k):∃H',wr H a vs=some H'/\k H':=by
 unfold wrW at h
 unfold wr
 split at h
 · obtain⟨o,ho,h⟩:=Z01 h
   simp only[ho]
   split at h
   · rename_i e1 e2
     split at h
     · rename_i e3
       obtain⟨cs',h1,h⟩:=h
       rw[Z07]at h
       simp only[e1]at h
       simp only[e1,e2];rw[if_pos e3,h1];exact⟨_,rfl,h⟩
     ·exact h.elim
   ·exact h.elim
 ·exact h.elim
def ZnE(t:TypeId)(a v:AV)(H:Z00)(k:Z00->Prop):Prop :=
 onO (tsz P t) λn=>if v.cells.length=n then wrW H a v.cells k else False
theorem Zkn{t:TypeId}{a v:AV}{H:Z00}{k:Z00->Prop}(h:ZnE P t a v H k):∃H',Z6w P t a v H=some H'/\k H':=by
 unfold ZnE at h
 unfold Z6w
 obtain⟨n,hn,h⟩:=Z01 h
 simp only[hn]
 split at h
 ·rename_i e;rw[if_pos e];exact Zmj h
 ·exact h.elim
def ZfT(o:Oper):Bool :=
 match o.op with
 | .move _=>true | .assign _=>true | .pick ..=>true | .build ..=>true | .nilCheck _=>true | .binOp ..=>true | .unOp ..=>true
 | .makeInterface ..=>true | .makeFunc ..=>true | .slice ..=>true | .fieldAddr ..=>true | .field ..=>true | .indexAddr ..=>true | .index ..=>true | .extract ..=>true
 | .load ..=>true | .lookup ..=>true
 | .call c=>match c.callee with | .builtin .len=>true | .builtin .max=>true | .builtin .min=>true|_=>false
 |_=>false
abbrev CW:=Nat->List AV->Z00->(AV->Z00->Prop)->Prop
def ZbN(P:Program)(orc:Orc)(cw:CW):Prop:=∀g args H k,cw g args H k->∃r H',Z08 P orc H g args=some (r,H')/\k r H'
noncomputable def cw0(orc:Orc):CW:=λg args H k=>∃y,Z08 P orc H g args=some y/\Z6V y.1 λr=>frcHW y.2 λH'=>k r H'
theorem Z5k(orc:Orc):ZbN P orc (cw0 P orc):=λg args H k ⟨y,h1,h2⟩=>⟨y.1,y.2,h1,by rw[Z25,Z07]at h2;exact h2⟩
def ZoR(o:Oper):Bool:=match o.op with
 | .slice t _ _ _ _=>match P.underlying t with|some (.array _ _)=>true|_=>false
 |_=>false
def opW(orc:Orc)(cw:CW)(ρ : Operand->Option AV)(o:Oper)(H:Z00)(k:AV->Z00->Prop):Prop :=
 match ZfT o with
 |true=>match ZoR P o with
  |true=>∃x,aop P orc ρ o H=some x/\Z6V x.1 λr=>frcHW x.2 λH'=>k r H'
  |false=>Z6z P ρ H o λr=>k r H
 |false=>match o.op with
  | .convert s d _=>match Z8d P s d with
   |true=>∃x,aop P orc ρ o H=some x/\Z6V x.1 λr=>frcHW x.2 λH'=>k r H'
   |false=>match Z02 P ρ H o with
    |some r=>frc1 r λr=>k r H
    |none=>∃x,aop P orc ρ o H=some x/\Z6V x.1 λr=>frcHW x.2 λH'=>k r H'
  | .store t a x=>onO (ρ a) λa=>onO (ρ x) λx=>ZnE P t a x H λH'=>k (.tuple []) H'
  | .alloc _=>onO (Z3j P ρ H o) λx=>Z6V x.1 λr=>frcHW x.2 λH'=>k r H'
  | .box ..=>onO (Z3j P ρ H o) λx=>Z6V x.1 λr=>frcHW x.2 λH'=>k r H'
  | .buildSlice ..=>onO (Z3j P ρ H o) λx=>Z6V x.1 λr=>frcHW x.2 λH'=>k r H'
  | .makeMap ..=>onO (Z3j P ρ H o) λx=>Z6V x.1 λr=>frcHW x.2 λH'=>k r H'
  | .mapUpdate t m i v=>onO (ρ m) λm=>onO (ρ i) λi=>onO (ρ v) λv=>∃x,Z3D P t m i v H=some x/\frcHW x λH'=>k (.tuple []) H'
  | .insert t m i v=>onO (ρ m) λm=>onO (ρ i) λi=>onO (ρ v) λv=>∃x,Z3D P t m i v H=some x/\frcHW x λH'=>k (.tuple []) H'
  | .makeSlice t l c=>onO (ρ l) λl=>onO (ρ c) λc=>∃x,Z0U P t l c H=some x/\Z6V x.1 λr=>frcHW x.2 λH'=>k r H'
  | .call c=>match c.callee with
   | .builtin .append=>match c.args.toList,c.argTypes.toList with
    |[s,x],[t,t2]=>onO (ρ s) λs=>onO (ρ x) λx=>∃y,Z2X P t t2 s x H=some y/\Z6V y.1 λr=>frcHW y.2 λH'=>k r H'
    |_,_=>False
   | .value _=>onO (callee ρ c) λ(g,args)=>cw g args H k
   |_=>∃x,aop P orc ρ o H=some x/\Z6V x.1 λr=>frcHW x.2 λH'=>k r H'
  |_=>∃x,aop P orc ρ o H=some x/\Z6V x.1 λr=>frcHW x.2 λH'=>k r H'
theorem Z9K{ρ : Operand->Option AV}{o:Oper}(h:ZfT o=true)(c:Call)(e:o.op = .call c):callee ρ c=none:=by
 unfold ZfT at h
 simp only[e]at h
 unfold callee
 split
 ·rename_i f hf;simp[hf]at h
 ·rfl
theorem Zhh{orc:Orc}{ρ : Operand->Option AV}{o:Oper}{H:Z00}(h:∀c,o.op = .call c->callee ρ c=none):aop P orc ρ o H=(match Z02 P ρ H o with|some r=>some (r,H)|none=>Z3j P ρ H o):=by
 unfold aop
 split
 · rename_i g args hx
   split at hx
   ·rename_i c ho;rw[h c ho]at hx;cases hx
   ·cases hx
 ·rfl
theorem Zjv{orc:Orc}{cw:CW}(hcw:ZbN P orc cw){ρ : Operand->Option AV}{o:Oper}{H:Z00}{k:AV->Z00->Prop}(h:opW P orc cw ρ o H k):∃r H',aop P orc ρ o H=some (r,H')/\k r H':=by
 have gen:(∃x,aop P orc ρ o H=some x/\Z6V x.1 λr=>frcHW x.2 λH'=>k r H')->∃r H',aop P orc ρ o H=some (r,H')/\k r H':=λ⟨x,h1,h2⟩=>⟨x.1,x.2,h1,by rw[Z25,Z07]at h2;exact h2⟩
 have eff:∀{x:AV×Z00},(∀c,o.op = .call c->callee ρ c=none)->Z02 P ρ H o=none->Z3j P ρ H o=some x->k x.1 x.2->∃r H',aop P orc ρ o H=some (r,H')/\k r H' :=
  λ{x} h1 h2 h3 h4=>⟨x.1,x.2,by rw[Zhh P h1,h2];exact h3,h4⟩
 unfold opW at h
 split at h
 · rename_i hp
   split at h
   ·exact gen h
   · obtain⟨r,h1,h⟩:=Z3o P h
     exact⟨r,H,by rw[Zhh P (Z9K hp),h1],h⟩
 · split at h
   · rename_i e
     split at h
     ·exact gen h
     · split at h
       · rename_i r hr
         rw[Z0o]at h
         exact⟨r,H,by rw[Zhh P (by simp[e]),hr],h⟩
       ·exact gen h
   · rename_i t a x e
     obtain⟨a',h1,h⟩:=Z01 h
     obtain⟨x',h2,h⟩:=Z01 h
     obtain⟨H',h3,h⟩:=Zkn P h
     exact eff (x:=(.tuple [],H')) (by simp[e]) (by simp only[Z02,Z0l,e]) (by simp only[Z3j,e,h1,h2,h3]) h
   · rename_i e
     obtain⟨x,h1,h⟩:=Z01 h
     rw[Z25,Z07]at h
     exact eff (by simp[e]) (by simp only[Z02,Z0l,e]) h1 h
   · rename_i e
     obtain⟨x,h1,h⟩:=Z01 h
     rw[Z25,Z07]at h
     exact eff (by simp[e]) (by simp only[Z02,Z0l,e]) h1 h
   · rename_i e
     obtain⟨x,h1,h⟩:=Z01 h
     rw[Z25,Z07]at h
     exact eff (by simp[e]) (by simp only[Z02,Z0l,e]) h1 h
   · rename_i e
     obtain⟨x,h1,h⟩:=Z01 h
     rw[Z25,Z07]at h
     exact eff (by simp[e]) (by simp only[Z02,Z0l,e]) h1 h
   · rename_i t m i v e
     obtain⟨m',h1,h⟩:=Z01 h
     obtain⟨i',h2,h⟩:=Z01 h
     obtain⟨v',h3,h⟩:=Z01 h
     obtain⟨x,h4,h⟩:=h
     rw[Z07]at h
     exact eff (x:=(.tuple [],x)) (by simp[e]) (by simp only[Z02,Z0l,e]) (by simp only[Z3j,e,h1,h2,h3,h4]) h
   · rename_i t m i v e
     obtain⟨m',h1,h⟩:=Z01 h
     obtain⟨i',h2,h⟩:=Z01 h
     obtain⟨v',h3,h⟩:=Z01 h
     obtain⟨x,h4,h⟩:=h
     rw[Z07]at h
     exact eff (x:=(.tuple [],x)) (by simp[e]) (by simp only[Z02,Z0l,e]) (by simp only[Z3j,e,h1,h2,h3,h4]) h
   · rename_i t l c e
     obtain⟨l',h1,h⟩:=Z01 h
     obtain⟨c',h2,h⟩:=Z01 h
     obtain⟨x,h3,h⟩:=h
     rw[Z25,Z07]at h
     exact eff (by simp[e]) (by simp only[Z02,Z0l,e]) (by simp only[Z3j,e,h1,h2];exact h3) h
   · rename_i c e
     split at h
     · rename_i hc
       split at h
       · rename_i s x t t2 ha ht
         obtain⟨s',h1,h⟩:=Z01 h
         obtain⟨x',h2,h⟩:=Z01 h
         obtain⟨y,h3,h⟩:=h
         rw[Z25,Z07]at h
         exact eff (λc' e'=>by rw[e]at e';cases e';simp[callee,hc]) (by simp only[Z02,Z0l,e,hc]) (by simp only[Z3j,e,hc,ha,ht,h1,h2];exact h3) h
       ·exact h.elim
     · rename_i f hc
       obtain⟨⟨g,args⟩,h1,h⟩:=Z01 h
       obtain⟨r,H',h2,h⟩:=hcw _ _ _ _ h
       exact⟨r,H',by unfold aop;simp only[e,h1];exact h2,h⟩
     ·exact gen h
   ·exact gen h
end W
end Go.Abs
end
section
namespace Go.Abs
open Go.RowKit
section reg
variable (P:Program) (gl:Glob) (orc:Orc) (cw:CW)
def ZhI(ops:List Oper)(o:Oper)(tm:Tr)(A B:Prop):Prop :=
 match o.guard with
 |none=>A
 |some (j,want)=>onO ops[j]? λg=>onO g.dst λd=>onO (Z11 tm d) λv=>match v with
  | .bool b=>match want with
   |true=>(b=true->A)/\(b=false->B)
   |false=>(b=true->B)/\(b=false->A)
  |_=>B
theorem ZhH{ops:List Oper}{o:Oper}{tm:Tr}{A B:Prop}(h:ZhI ops o tm A B):(Z0v ops o tm=some true/\A)\/(Z0v ops o tm=some false/\B):=by
 unfold ZhI at h
 unfold Z0v
 split at h
 ·rename_i e;exact .inl ⟨by simp only[e],h⟩
 · rename_i j want e
   obtain⟨g,h1,h⟩:=Z01 h
   obtain⟨d,h2,h⟩:=Z01 h
   obtain⟨v,h3,h⟩:=Z01 h
   split at h
   · rename_i b
     simp only[e,h1,h2,h3]
     cases b<;>cases want
     ·exact .inl ⟨rfl,h.2 rfl⟩
     ·exact .inr ⟨rfl,h.2 rfl⟩
     ·exact .inr ⟨rfl,h.1 rfl⟩
     ·exact .inl ⟨rfl,h.1 rfl⟩
   · rename_i hne
     refine .inr ⟨?_,h⟩
     simp only[e,h1,h2,h3]
noncomputable def Zky(ops:List Oper)(l:List Oper):Tr->Z00->(Tr->Z00->Prop)->Prop :=
 List.rec (motive:=λ_=>Tr->Z00->(Tr->Z00->Prop)->Prop) (λtm H k=>k tm H)
  (λo _ ih tm H k=>ZhI ops o tm (opW P orc cw (Z1E gl tm) o H λr H'=>onO (Z3L o.dst r tm) λtm'=>ih tm' H' k) (onO (Z3L o.dst (.tuple []) tm) λtm'=>ih tm' H k)) l
theorem Zft(ops:List Oper)(o:Oper)(l:List Oper)(tm:Tr)(H:Z00)(k:Tr->Z00->Prop) :
 Zky P gl orc cw ops (o::l) tm H k=ZhI ops o tm (opW P orc cw (Z1E gl tm) o H λr H'=>onO (Z3L o.dst r tm) λtm'=>Zky P gl orc cw ops l tm' H' k) (onO (Z3L o.dst (.tuple []) tm) λtm'=>Zky P gl orc cw ops l tm' H k):=rfl
theorem Z9s(hcw:ZbN P orc cw){ops:List Oper}:∀{l:List Oper}{tm:Tr}{H:Z00}{k:Tr->Z00->Prop},Zky P gl orc cw ops l tm H k->∃tm' H',ZeI P gl orc ops l tm H=some (tm',H')/\k tm' H'
 |[],tm,H,k,h=>⟨tm,H,rfl,h⟩
 |o::l,tm,H,k,h=>by
  rw[Zft]at h
  rcases ZhH h with ⟨h1,h⟩|⟨h1,h⟩
  · obtain⟨r,H',h2,h⟩:=Zjv P hcw h
    obtain⟨tm',h3,h⟩:=Z01 h
    obtain⟨tm2,H2,h4,h⟩:=Z9s hcw h
    exact⟨tm2,H2,by simp only[ZeI,h1,h2,Z1z,h3];exact h4,h⟩
  · obtain⟨tm',h3,h⟩:=Z01 h
    obtain⟨tm2,H2,h4,h⟩:=Z9s hcw h
    exact⟨tm2,H2,by simp only[ZeI,h1,h3];exact h4,h⟩
def Z8p(ops:List Oper)(env:List (Nat×AV))(o:Oper)(A B:Prop):Prop :=
 match o.guard with
 |none=>A
 |some (j,want)=>match ops[j]? with
  |some g=>match g.dst with
   |some d=>match Z1N d env with
    |some (.bool b)=>match want with
     |true=>(b=true->A)/\(b=false->B)
     |false=>(b=true->B)/\(b=false->A)
    |_=>B
   |none=>B
  |none=>B
theorem Z4S{ops:List Oper}{env:List (Nat×AV)}{o:Oper}{A B:Prop}(h:Z8p ops env o A B):(Z09 ops env o=true/\A)\/(Z09 ops env o=false/\B):=by
 unfold Z8p at h
 unfold Z09
 split at h
 ·rename_i e;exact .inl ⟨by simp only[e],h⟩
 · rename_i j want e
   split at h
   · rename_i g e1
     split at h
     · rename_i d e2
       split at h
       · rename_i b e3
         simp only[e,e1,e2,e3]
         cases b<;>cases want
         ·exact .inl ⟨rfl,h.2 rfl⟩
         ·exact .inr ⟨rfl,h.2 rfl⟩
         ·exact .inr ⟨rfl,h.1 rfl⟩
         ·exact .inl ⟨rfl,h.1 rfl⟩
       · rename_i hne
         refine .inr ⟨?_,h⟩
         simp only[e,e1,e2]
     ·rename_i e2;exact .inr ⟨by simp only[e,e1,e2],h⟩
   ·rename_i e1;exact .inr ⟨by simp only[e,e1],h⟩
def Zme(tm:Tr):List Nat->Option (List (Nat×AV))
 |[]=>some []
 |t::ts=>match Z11 tm t,Zme tm ts with|some v,some e=>some ((t,v)::e)|_,_=>none
theorem Zgo{tm tmc:Tr}{vals:List (Option AV)}{ops:List Oper}{D:Nat->Bool}:∀{ts:List Nat},(∀t∈ts,Z0Z vals D t ops 0 (Z11 tm t)=Z11 tmc t)->Z1q tm vals ops D ts=Zme tmc ts
 |[],h=>rfl
 |t::ts,h=>by
  have ih:Z1q tm vals ops D ts=Zme tmc ts:=Zgo λs hs=>h s (by simp[hs])
  simp only[Z1q,Zme,h t (by simp),ih]
  rfl
theorem Zlu {ops : List Oper} {an : List Nat} {tm tmc : Tr} {i : Nat} {o : Oper} {vals : List (Option AV)} {done : Nat} (htm : Z0N ops an i o = true) (hV : VInv ops an tm vals done tmc) (hi : bit done i = false) (han : ∀ k, bit (an.getD i 0) k = true -> bit done k = true) :
  Z1q tm vals ops (bit (an.getD i 0)) (looks ops o)=Zme tmc (looks ops o):=by
 simp only[Z0N,Y01]at htm
 refine Zgo λt ht=>?_
 have hw:=Y0i.1 htm.1 t ht
 rw[Z15 (D':=bit done) ops 0 _ (λk x hx hd=>?_),hV.cur t]
 simp only[Y02]
 cases hq:bit done k with
 |true =>
  rcases Z0T ops 0 k x hw hx hd with h1|h1|h1
  ·rw[Y02]at h1;subst h1;rw[hi]at hq;cases hq
  ·rwa [Y02]at h1
  · rw[Y02]at h1
    have:=hV.cls k i hq h1
    rw[hi]at this;cases this
 |false =>
  cases hp:bit (an.getD i 0) k with
  |false=>rfl
  |true=>rw[han k hp]at hq;cases hq
abbrev ZcN:=Nat×Oper×List (Nat×AV)×AV
abbrev StK:=Tr->Nat->Z00->List Nat->Z00->List (Nat×Z00×List Nat)->List ZcN->Prop
def ZdA(ops:List Oper)(an:List Nat)(i:Nat)(tmc:Tr)(done:Nat)(base:Z00)(new:List Nat)(heap:Z00)(sts:List (Nat×Z00×List Nat))(recs:List ZcN)(k:StK):Prop :=
 onO ops[i]? λo=>onO (Zme tmc (looks ops o)) λenv =>
  match !(bit done i)&&Y00 (Nat.land (an.getD i 0) done) (an.getD i 0) with
  |false=>False
  |true=>Z2y (Nat.lor done (2 ^ i)) λdone' =>
   match kind o with
   |2=>Z8p ops env o
    (onO (Z0t P (Z0G gl env) o) fun x => if Z0e heap.length (Z36 x.2 []) then Z6V (x.1 heap.length) fun r => frcHW (heap ++ [⟨true, heap.length, 0, x.2⟩]) fun H' =>
      onO (Z3L o.dst r tmc) λtmc=>k tmc done' base (new++[i]) H' sts recs else False)
    (onO (Z3L o.dst (.tuple []) tmc) λtmc=>k tmc done' base new heap sts recs)
   | 3 => if Z4c (an.getD i 0) new && Z0e heap.length (Z1d env []) then Z8p ops env o
     (opW P orc cw (Z0G gl env) o heap λr H'=>if Nat.ble heap.length H'.length then onO (Z3L o.dst r tmc) λtmc=>k tmc done' H' [] H' (sts++[(i,base,new)]) recs else False)
     (onO (Z3L o.dst (.tuple []) tmc) λtmc=>k tmc done' heap [] heap (sts++[(i,base,new)]) recs)
    else False
   |1=>Z8p ops env o
    (Z6z P (Z0G gl env) heap o λr=>onO (Z3L o.dst r tmc) λtmc=>k tmc done' base new heap sts ((i,o,env,r)::recs))
    (onO (Z3L o.dst (.tuple []) tmc) λtmc=>k tmc done' base new heap sts recs)
   |_=>Z8p ops env o
    (Z6z P (Z0G gl env) heap o λr=>onO (Z3L o.dst r tmc) λtmc=>k tmc done' base new heap sts recs)
    (onO (Z3L o.dst (.tuple []) tmc) λtmc=>k tmc done' base new heap sts recs)
structure RecOK (ops:List Oper) (an:List Nat) (tm:Tr) (vals:List (Option AV)) (done:Nat) (recs:List ZcN):Prop where
 at_:∀r∈recs,At ops an tm vals r.1 r.2.1 r.2.2.1 r.2.2.2
 all:∀(j:Nat)(o:Oper)(env:List (Nat×AV))(v:AV),bit done j=true->kind o=1->At ops an tm vals j o env v->Z09 ops env o=true->(j,o,env,v)∈recs
theorem RecOK.next {ops : List Oper} {an : List Nat} {tm tmc : Tr} {i : Nat} {o : Oper} {env : List (Nat × AV)} {vals : List (Option AV)} {done : Nat} {recs recs' : List ZcN} {r : AV} (h : RecOK ops an tm vals done recs) (hV : VInv ops an tm vals done tmc) (hi : bit done i = false) (ho : ops[i]? = some o)
  (henv:Z1q tm vals ops (bit (an.getD i 0)) (looks ops o)=some env) (hF:∀k,bit done k=true->∃o env v,At ops an tm vals k o env v)
  (hr:recs'=recs/\(kind o=1->Z09 ops env o=false)\/recs'=(i,o,env,r)::recs):RecOK ops an tm (vals.set i (some r)) (Nat.lor done (2 ^ i)) recs'/\∀k,bit (Nat.lor done (2 ^ i)) k=true->∃o env v,At ops an tm (vals.set i (some r)) k o env v:=by
 have hil:i<vals.length:=by rw[hV.vlen];exact (Y04.1 ho).1
 have hle:=hV.vle hi r
 have hat:At ops an tm (vals.set i (some r)) i o env r:=⟨ho,Z1L hle _ _ henv,by simp[hil]⟩
 refine⟨⟨λx hx=>?_,λj o' env' v hj hk ha hw=>?_⟩,λk hk=>?_⟩
 · rcases hr with ⟨rfl,_⟩|rfl
   ·exact (h.at_ x hx).mono hle
   · rcases Y06.1 hx with rfl|hx
     ·exact hat
     ·exact (h.at_ x hx).mono hle
 · rcases (Z4p _ _ _).1 hj with hj|rfl
   · obtain⟨o2,env2,v2,ha2⟩:=hF j hj
     obtain⟨rfl,rfl,rfl⟩:=ha.uniq (ha2.mono hle)
     have:=h.all j _ _ _ hj hk ha2 hw
     rcases hr with ⟨rfl,_⟩|rfl
     ·exact this
     ·exact List.mem_cons_of_mem _ this
   · obtain⟨rfl,rfl,rfl⟩:=ha.uniq hat
     rcases hr with ⟨rfl,h1⟩|rfl
     ·rw[h1 hk]at hw;cases hw
     ·exact List.mem_cons_self ..
 · rcases (Z4p _ _ _).1 hk with hk|rfl
   · obtain⟨o2,env2,v2,ha2⟩:=hF k hk
     exact⟨o2,env2,v2,ha2.mono hle⟩
   ·exact⟨o,env,r,hat⟩
def shp:Tr->Tr->Prop
 | .leaf,.leaf=>True
 | .node _ l r,.node _ l2 r2=>shp l l2/\shp r r2
 |_,_=>False
theorem shp.refl:∀t:Tr,shp t t
 | .leaf=>trivial
 | .node _ l r=>⟨shp.refl l,shp.refl r⟩
theorem shp.symm:∀{t u:Tr},shp t u->shp u t
 | .leaf,.leaf,_=>trivial
 | .node _ _ _,.node _ _ _,h=>⟨shp.symm h.1,shp.symm h.2⟩
 | .leaf,.node _ _ _,h=>h.elim
 | .node _ _ _,.leaf,h=>h.elim
theorem shp.trans:∀{t u v:Tr},shp t u->shp u v->shp t v
 | .leaf,.leaf,.leaf,_,_=>trivial
 | .node _ _ _,.node _ _ _,.node _ _ _,h,k=>⟨h.1.trans k.1,h.2.trans k.2⟩
 | .leaf,.node _ _ _,_,h,_=>h.elim
 | .node _ _ _,.leaf,_,h,_=>h.elim
 | .leaf,.leaf,.node _ _ _,_,k=>k.elim
 | .node _ _ _,.node _ _ _,.leaf,_,k=>k.elim
theorem Z9f:∀{t:Tr}{n:Nat}{v:AV}{t':Tr},ZcR t n v=some t'->shp t t'
 | .leaf,n,v,t',h=>by simp[ZcR]at h
 | .node x l r,0,v,t',h=>by
  simp only[ZcR]at h
  split at h<;>simp at h
  subst h;exact⟨shp.refl l,shp.refl r⟩
 | .node x l r,n+1,v,t',h=>by
  simp only[ZcR]at h
  split at h
  · split at h<;>simp at h
    subst h;rename_i l' hl;exact⟨Z9f hl,shp.refl r⟩
  · split at h<;>simp at h
    subst h;rename_i r' hr;exact⟨shp.refl l,Z9f hr⟩
theorem Zd7{d:Option Tmp}{v:AV}{t t':Tr}(h:Z3L d v t=some t'):shp t t':=by
 cases d with
 |none=>simp[Z3L]at h;subst h;exact shp.refl t
 |some d=>exact Z9f h
theorem Z7P{vals:List (Option AV)}:∀{l:List Oper}{i:Nat}{tm tm':Tr},Z1A vals l i tm=some tm'->shp tm tm'
 |[],i,tm,tm',h=>by simp[Z1A]at h;subst h;exact shp.refl tm
 |o::l,i,tm,tm',h=>by
  simp only[Z1A]at h
  split at h<;>try (simp at h;done)
  split at h<;>try (simp at h;done)
  rename_i tm1 hp
  exact (Zd7 hp).trans (Z7P h)
theorem ZbW:∀{t u:Tr},shp t u->(∀n,Z11 t n=Z11 u n)->(∀n,tex t n=tex u n)->t=u
 | .leaf,.leaf,_,_,_=>rfl
 | .node x l r,.node y l2 r2,h,hg,hx=>by
  have e0:x=y:=by
   have h1:=hg 0
   have h2:=hx 0
   simp only[Z11,tex]at h1 h2
   cases x<;>cases y<;>simp_all
  have hl:l=l2:=ZbW h.1 (λn=>by
   have:=hg (2*n+1)
   have e:Nat.mod (2*n) 2=0:=by show (2*n) % 2=0;omega
   have e2:Nat.div (2*n) 2=n:=by show (2*n) / 2=n;omega
   simpa only[Z11,e,e2]using this) (λn=>by
   have:=hx (2*n+1)
   have e:Nat.mod (2*n) 2=0:=by show (2*n) % 2=0;omega
   have e2:Nat.div (2*n) 2=n:=by show (2*n) / 2=n;omega
   simpa only[tex,e,e2]using this)
  have hr:r=r2:=ZbW h.2 (λn=>by
   have:=hg (2*n+1+1)
   have e:Nat.mod (2*n+1) 2=1:=by show (2*n+1) % 2=1;omega
   have e2:Nat.div (2*n+1) 2=n:=by show (2*n+1) / 2=n;omega
   simpa only[Z11,e,e2]using this) (λn=>by
   have:=hx (2*n+1+1)
   have e:Nat.mod (2*n+1) 2=1:=by show (2*n+1) % 2=1;omega
   have e2:Nat.div (2*n+1) 2=n:=by show (2*n+1) / 2=n;omega
   simpa only[tex,e,e2]using this)
  rw[e0,hl,hr]
 | .leaf,.node _ _ _,h,_,_=>h.elim
 | .node _ _ _,.leaf,h,_,_=>h.elim
structure DW (ops:List Oper) (an:List Nat) (tm tmc:Tr) (s:DSt) (recs:List ZcN):Prop where
 v:VInv ops an tm s.vals s.done tmc
 r:RecOK ops an tm s.vals s.done recs
 f:∀k,bit s.done k=true->∃o env v,At ops an tm s.vals k o env v
 ex:∀t,tex tmc t=tex tm t
 sh:shp tm tmc
theorem DW.next {ops : List Oper} {an : List Nat} {tm tmc tmc' : Tr} {s : DSt} {recs recs' : List ZcN} {i : Nat} {o : Oper} {env : List (Nat × AV)} {r : AV} {base heap : Z00} {new : List Nat} {sts : List (Nat × Z00 × List Nat)} (h : DW ops an tm tmc s recs) (ho : ops[i]? = some o) (hi : bit s.done i = false) (han : ∀ k, bit (an.getD i 0) k = true -> bit s.done k = true)
  (hb:an.getD i 0<2 ^ i) (htm:Z0N ops an i o=true) (henv:Z1q tm s.vals ops (bit (an.getD i 0)) (looks ops o)=some env) (hp:Z3L o.dst r tmc=some tmc') (hr:recs'=recs/\(kind o=1->Z09 ops env o=false)\/recs'=(i,o,env,r)::recs) :
  DW ops an tm tmc' ⟨s.vals.set i (some r),Nat.lor s.done (2 ^ i),base,new,heap,sts⟩ recs':=by
 obtain⟨g1,g2⟩:=h.r.next h.v hi ho henv h.f hr
 exact⟨h.v.next ho hp hi han hb htm,g1,g2,λt=>by rw[Zd6 hp t];exact h.ex t,h.sh.trans (Zd7 hp)⟩
theorem Zgs (hcw : ZbN P orc cw) {ops : List Oper} {an : List Nat} {tm tmc : Tr} {i : Nat} {s : DSt} {recs : List ZcN} {k : StK} (hW : DW ops an tm tmc s recs) (htm : ∀ i o, ops[i]? = some o -> Z0N ops an i o = true) (hb : ∀ i, i < ops.length -> an.getD i 0 < 2 ^ i)
  (h:ZdA P gl orc cw ops an i tmc s.done s.base s.new s.heap s.sts recs k):∃s' tmc' recs',Z4H P gl orc ops an tm i s=some s'/\DW ops an tm tmc' s' recs'/\k tmc' s'.done s'.base s'.new s'.heap s'.sts recs':=by
 unfold ZdA at h
 obtain⟨o,ho,h⟩:=Z01 h
 obtain⟨env,henvT,h⟩:=Z01 h
 split at h
 ·exact h.elim
 · rename_i hc
   simp only[Y01,Y0o]at hc
   obtain⟨hi,hsub⟩:=hc
   have han:=Zdf hsub
   have htm':=htm i o ho
   have hb':=hb i (Y04.1 ho).1
   have henv:Z1q tm s.vals ops (bit (an.getD i 0)) (looks ops o)=some env:=by rw[Zlu htm' hW.v hi han,henvT]
   rw[Z3u]at h
   unfold Z4H
   simp only[ho,henv,hi,Y03,if_false]
   split at h
   · rename_i hk
     simp only[hk]
     have hk1:∀{b:Bool},kind o=1->Z09 ops env o=b:=λe=>by rw[hk]at e;cases e
     rcases Z4S h with ⟨h1,h⟩|⟨h1,h⟩
     · obtain⟨⟨mk,body⟩,h2,h⟩:=Z01 h
       split at h
       · rename_i h3
         rw[Z25,Z07]at h
         obtain⟨tmc',h4,h⟩:=Z01 h
         simp only at h3
         exact⟨_,tmc',recs,by simp only[h1,if_true,h2];rw[if_pos h3,Z1z],hW.next ho hi han hb' htm' henv h4 (.inl ⟨rfl,hk1⟩),h⟩
       ·exact h.elim
     · obtain⟨tmc',h4,h⟩:=Z01 h
       exact⟨_,tmc',recs,by simp only[h1,Y03,if_false],hW.next ho hi han hb' htm' henv h4 (.inl ⟨rfl,hk1⟩),h⟩
   · rename_i hk
     simp only[hk]
     have hk1:∀{b:Bool},kind o=1->Z09 ops env o=b:=λe=>by rw[hk]at e;cases e
     split at h
     · rename_i h0
       rcases Z4S h with ⟨h1,h⟩|⟨h1,h⟩
       · obtain⟨r,H',h2,h⟩:=Zjv P hcw h
         split at h
         · rename_i h3
           obtain⟨tmc',h4,h⟩:=Z01 h
           exact⟨_,tmc',recs,by rw[if_pos h0];simp only[h1,if_true,h2,Z1z];rw[if_pos h3],hW.next ho hi han hb' htm' henv h4 (.inl ⟨rfl,hk1⟩),h⟩
         ·exact h.elim
       · obtain⟨tmc',h4,h⟩:=Z01 h
         exact⟨_,tmc',recs,by rw[if_pos h0];simp only[h1,Y03,if_false],hW.next ho hi han hb' htm' henv h4 (.inl ⟨rfl,hk1⟩),h⟩
     ·exact h.elim
   · rename_i hk
     simp only[hk]
     rcases Z4S h with ⟨h1,h⟩|⟨h1,h⟩
     · obtain⟨r,h2,h⟩:=Z3o P h
       obtain⟨tmc',h4,h⟩:=Z01 h
       exact⟨_,tmc',_,by simp only[h1,if_true,h2,Z1z],hW.next ho hi han hb' htm' henv h4 (.inr rfl),h⟩
     · obtain⟨tmc',h4,h⟩:=Z01 h
       exact⟨_,tmc',recs,by simp only[h1,Y03,if_false],hW.next ho hi han hb' htm' henv h4 (.inl ⟨rfl,λ_=>h1⟩),h⟩
   · rename_i hk2 hk3 hk1
     have key:∀{A B C:Option DSt},(match kind o with|2=>A|3=>B|_=>C)=C:=by
      intro A B C
      split
      ·rename_i e;exact (hk2 e).elim
      ·rename_i e;exact (hk3 e).elim
      ·rfl
     rcases Z4S h with ⟨h1,h⟩|⟨h1,h⟩
     · obtain⟨r,h2,h⟩:=Z3o P h
       obtain⟨tmc',h4,h⟩:=Z01 h
       exact⟨_,tmc',recs,key.trans (by simp only[h1,if_true,h2,Z1z]),hW.next ho hi han hb' htm' henv h4 (.inl ⟨rfl,λe=>(hk1 e).elim⟩),h⟩
     · obtain⟨tmc',h4,h⟩:=Z01 h
       exact⟨_,tmc',recs,key.trans (by simp only[h1,Y03,if_false]),hW.next ho hi han hb' htm' henv h4 (.inl ⟨rfl,λe=>(hk1 e).elim⟩),h⟩
noncomputable def Zgt(ops:List Oper)(an:List Nat)(l:List Nat):Tr->Nat->Z00->List Nat->Z00->List (Nat×Z00×List Nat)->List ZcN->StK->Prop :=
 List.rec (motive:=λ_=>Tr->Nat->Z00->List Nat->Z00->List (Nat×Z00×List Nat)->List ZcN->StK->Prop) (λtmc done base new heap sts recs k=>k tmc done base new heap sts recs)
  (λi _ ih tmc done base new heap sts recs k=>ZdA P gl orc cw ops an i tmc done base new heap sts recs λtmc done base new heap sts recs=>ih tmc done base new heap sts recs k) l
theorem Zbe (hcw : ZbN P orc cw) {ops : List Oper} {an : List Nat} {tm : Tr} (htm : ∀ i o, ops[i]? = some o -> Z0N ops an i o = true) (hb : ∀ i, i < ops.length -> an.getD i 0 < 2 ^ i) : ∀ {l : List Nat} {tmc : Tr} {s : DSt} {recs : List ZcN} {k : StK}, DW ops an tm tmc s recs -> Zgt P gl orc cw ops an l tmc s.done s.base s.new s.heap s.sts recs k ->
  ∃s' tmc' recs',Z43 P gl orc ops an tm l s=some s'/\DW ops an tm tmc' s' recs'/\k tmc' s'.done s'.base s'.new s'.heap s'.sts recs'
 |[],tmc,s,recs,k,hW,h=>⟨s,tmc,recs,rfl,hW,h⟩
 |i::l,tmc,s,recs,k,hW,h=>by
  replace h:ZdA P gl orc cw ops an i tmc s.done s.base s.new s.heap s.sts recs λtmc done base new heap sts recs=>Zgt P gl orc cw ops an l tmc done base new heap sts recs k:=h
  obtain⟨s1,t1,r1,h1,w1,h⟩:=Zgs P gl orc cw hcw hW htm hb h
  obtain⟨s2,t2,r2,h2,w2,h⟩:=Zbe hcw htm hb w1 h
  exact⟨s2,t2,r2,by simp only[Z43,h1];exact h2,w2,h⟩
noncomputable def Z4y(o:Oper)(env:List (Nat×AV))(v:AV)(j:Nat)(an:List Nat)(aj:Nat)(K:Prop)(l:List (Nat×Z00×List Nat)):Z00->Prop :=
 List.rec (motive:=λ_=>Z00->Prop) (λH=>Z6z P (Z0G gl env) H o λu=>u=v/\K)
  (fun p _ ih H => Prod.rec (fun e q => Prod.rec (fun B _ => match bit aj e with
    |true=>ih H
    |false=>Z6z P (Z0G gl env) B o λu=>u=v/\(match bit (an.getD e 0) j with|true=>K|false=>ih H)) q) p) l
theorem Z33{o:Oper}{env:List (Nat×AV)}{v:AV}{j:Nat}{an:List Nat}{aj:Nat}{K:Prop}:∀{l:List (Nat×Z00×List Nat)}{H:Z00},Z4y P gl o env v j an aj K l H->stages P gl o env v j an aj veq l H=true/\K
 |[],H,h=>by
  obtain⟨u,h1,h2,hK⟩:=Z3o P h
  subst h2
  exact⟨by simp only[stages,h1,Z1t],hK⟩
 |(e,B,nw)::l,H,h=>by
  replace h:(match bit aj e with
   |true=>Z4y P gl o env v j an aj K l H
   |false=>Z6z P (Z0G gl env) B o λu=>u=v/\(match bit (an.getD e 0) j with|true=>K|false=>Z4y P gl o env v j an aj K l H)):=h
  simp only[stages]
  split at h
  ·rename_i hb;rw[if_pos hb];exact Z33 h
  · rename_i hb
    rw[if_neg (by rw[hb];simp)]
    obtain⟨u,h3,h4,h2⟩:=Z3o P h
    subst h4
    simp only[h3,Z1t,Bool.true_and,Y0f]
    split at h2
    ·rename_i hc;exact⟨.inl hc,h2⟩
    ·exact⟨.inr (Z33 h2).1,(Z33 h2).2⟩
noncomputable def Z50(F:Z00->Z00)(o:Oper)(env:List (Nat×AV))(v:AV)(j:Nat)(an:List Nat)(aj:Nat)(K:Prop)(l:List (Nat×Z00×List Nat)):Z00->Prop :=
 List.rec (motive:=λ_=>Z00->Prop) (λH=>frcHW (F H) λH=>Z6z P (Z0G gl env) H o λu=>u=v/\K)
  (fun p _ ih H => Prod.rec (fun e q => Prod.rec (fun B _ => match bit aj e with
    |true=>ih H
    |false=>frcHW (F B) λB=>Z6z P (Z0G gl env) B o λu=>u=v/\(match bit (an.getD e 0) j with|true=>K|false=>ih H)) q) p) l
theorem Z3n{F:Z00->Z00}{o:Oper}{env:List (Nat×AV)}{v:AV}{j:Nat}{an:List Nat}{aj:Nat}{K:Prop}:∀{l:List (Nat×Z00×List Nat)}{H:Z00},Z50 P gl F o env v j an aj K l H->stages P gl o env v j an aj veq (ZbK F l) (F H)=true/\K
 |[],H,h=>by
  replace h:frcHW (F H) λH=>Z6z P (Z0G gl env) H o λu=>u=v/\K:=h
  rw[Z07]at h
  obtain⟨u,h1,h2,hK⟩:=Z3o P h
  subst h2
  exact⟨by simp only[ZbK,stages,h1,Z1t],hK⟩
 |(e,B,nw)::l,H,h=>by
  replace h:(match bit aj e with
   |true=>Z50 P gl F o env v j an aj K l H
   |false=>frcHW (F B) λB=>Z6z P (Z0G gl env) B o λu=>u=v/\(match bit (an.getD e 0) j with|true=>K|false=>Z50 P gl F o env v j an aj K l H)):=h
  simp only[ZbK,stages]
  split at h
  ·rename_i hb;rw[if_pos hb];exact Z3n h
  · rename_i hb
    rw[if_neg (by rw[hb];simp)]
    rw[Z07]at h
    obtain⟨u,h3,h4,h2⟩:=Z3o P h
    subst h4
    simp only[h3,Z1t,Bool.true_and,Y0f]
    split at h2
    ·rename_i hc;exact⟨.inl hc,h2⟩
    ·exact⟨.inr (Z3n h2).1,(Z3n h2).2⟩
noncomputable def Z51(an:List Nat)(sts:List (Nat×Z00×List Nat))(base:Z00)(nw:List Nat)(heap:Z00)(K:Prop)(l:List ZcN):Prop :=
 List.rec (motive:=λ_=>Prop) K (λr _ ih=>Prod.rec (λj q=>Prod.rec (λo q=>Prod.rec (λenv v=>match Z0e base.length (Z1d env []) with
  |true=>Z4y P gl o env v j an (an.getD j 0) ih sts base
  |false=>Z50 P gl (Z2N (an.getD j 0) base nw heap) o env v j an (an.getD j 0) ih sts base) q) q) r) l
theorem Z7a{an:List Nat}{sts:List (Nat×Z00×List Nat)}{base heap:Z00}{nw:List Nat}{K:Prop}:∀{l:List ZcN},Z51 P gl an sts base nw heap K l->(∀r∈l,(stages P gl r.2.1 r.2.2.1 r.2.2.2 r.1 an (an.getD r.1 0) veq sts base || stages P gl r.2.1 r.2.2.1 r.2.2.2 r.1 an (an.getD r.1 0) veq (ZbK (Z2N (an.getD r.1 0) base nw heap) sts) (Z2N (an.getD r.1 0) base nw heap base))=true)/\K
 |[],h=>⟨λr hr=>by simp at hr,h⟩
 |(j,o,env,v)::l,h=>by
  replace h:(match Z0e base.length (Z1d env []) with
   |true=>Z4y P gl o env v j an (an.getD j 0) (Z51 P gl an sts base nw heap K l) sts base
   |false=>Z50 P gl (Z2N (an.getD j 0) base nw heap) o env v j an (an.getD j 0) (Z51 P gl an sts base nw heap K l) sts base):=h
  have h':(stages P gl o env v j an (an.getD j 0) veq sts base || stages P gl o env v j an (an.getD j 0) veq (ZbK (Z2N (an.getD j 0) base nw heap) sts) (Z2N (an.getD j 0) base nw heap base))=true/\Z51 P gl an sts base nw heap K l:=by
   split at h
   · obtain⟨h1,h2⟩:=Z33 P gl h
     exact⟨by rw[h1];rfl,h2⟩
   · obtain⟨h1,h2⟩:=Z3n P gl h
     exact⟨by rw[h1,Bool.or_true],h2⟩
  obtain⟨h1,h2⟩:=h'
  obtain⟨h3,h4⟩:=Z7a h2
  refine⟨λr hr=>?_,h4⟩
  rcases Y06.1 hr with rfl|hr
  ·exact h1
  ·exact h3 r hr
noncomputable def ZbS(an:List Nat)(sts:List (Nat×Z00×List Nat))(base:Z00)(K:Prop)(l:List ZcN):Prop :=
 List.rec (motive:=λ_=>Prop) K (λr _ ih=>Prod.rec (λj q=>Prod.rec (λo q=>Prod.rec (λenv v=>Z4y P gl o env v j an (an.getD j 0) ih sts base) q) q) r) l
theorem Z8v{an:List Nat}{sts:List (Nat×Z00×List Nat)}{base:Z00}{K:Prop}:∀{l:List ZcN},ZbS P gl an sts base K l->(∀r∈l,stages P gl r.2.1 r.2.2.1 r.2.2.2 r.1 an (an.getD r.1 0) veq sts base=true)/\K
 |[],h=>⟨λr hr=>by simp at hr,h⟩
 |(j,o,env,v)::l,h=>by
  replace h:Z4y P gl o env v j an (an.getD j 0) (ZbS P gl an sts base K l) sts base:=h
  obtain⟨h1,h2⟩:=Z33 P gl h
  obtain⟨h3,h4⟩:=Z8v h2
  refine⟨λr hr=>?_,h4⟩
  rcases Y06.1 hr with rfl|hr
  ·exact h1
  ·exact h3 r hr
theorem Z5B {ops : List Oper} {an : List Nat} {tm tmc : Tr} {s : DSt} {recs : List ZcN} (hW : DW ops an tm tmc s recs) (hr : ∀ r ∈ recs, (stages P gl r.2.1 r.2.2.1 r.2.2.2 r.1 an (an.getD r.1 0) veq s.sts s.base || stages P gl r.2.1 r.2.2.1 r.2.2.2 r.1 an (an.getD r.1 0) veq (ZbK (Z2N (an.getD r.1 0) s.base s.new s.heap) s.sts) (Z2N (an.getD r.1 0) s.base s.new s.heap s.base)) = true) :
  ∀(l:List Oper)(j:Nat),(∀i,i<l.length->bit s.done (j+i)=true/\ops[j+i]? = l[i]?)->Z18 P gl tm ops an s l j=true
 |[],j,hd=>rfl
 |o::l,j,hd=>by
  simp only[Z18,Y01]
  refine⟨?_,Z5B hW hr l (j+1) λi hi=>?_⟩
  · split
    · rename_i hk
      obtain⟨h1,h2⟩:=hd 0 (by simp)
      simp only[Nat.add_zero]at h1 h2
      obtain⟨o2,env,v,hat⟩:=hW.f j h1
      have:o2=o:=by have:=hat.op;rw[h2]at this;simpa using this.symm
      subst this
      simp only[hat.val,hat.env]
      split
      · rename_i hw
        exact hr _ (hW.r.all j o2 env v h1 (Y05 hk) hat hw)
      ·rfl
    ·rfl
  · have:=hd (i+1) (by simpa using hi)
    rw[show j+(i+1)=j+1+i from by omega]at this
    simpa using this
def Z7n:List Oper->Bool
 |[]=>true
 |o::l=>Nat.ble (kind o) 1&&Z7n l
theorem Z8F:∀{ops:List Oper}{i:Nat}{o:Oper},Z7n ops=true->ops[i]? = some o->kind o<=1
 |[],i,o,h,e=>by simp at e
 |x::l,0,o,h,e=>by simp[Z7n]at h e;subst e;exact h.1
 |x::l,i+1,o,h,e=>by simp[Z7n]at h e;exact Z8F h.2 e
structure QI (ops:List Oper) (an:List Nat) (tm:Tr) (H0:Z00) (s:DSt):Prop where
 base:s.base=H0
 heap:s.heap=H0
 sts:s.sts=[]
 done:∀i,bit s.done i=true->∃o env v,At ops an tm s.vals i o env v/\(Z09 ops env o=true->Z02 P (Z0G gl env) H0 o=some v)
 vdone:∀(i:Nat)(v:AV),s.vals[i]? = some (some v)->bit s.done i=true
theorem QI.start(ops:List Oper)(an:List Nat)(tm:Tr)(H:Z00):QI P gl ops an tm H ⟨Z0Y ops,0,H,[],H,[]⟩ :=
 ⟨rfl,rfl,rfl,λi h=>(by rw[Z1c]at h;cases h),λi v h=>(Z2K ops i v h).elim⟩
theorem ZiS{ops:List Oper}{an:List Nat}{tm:Tr}{H0:Z00}{i:Nat}{s s':DSt}(hq:Z7n ops=true)(hl:s.vals.length=ops.length)(h:QI P gl ops an tm H0 s)(e:Z4H P gl orc ops an tm i s=some s'):QI P gl ops an tm H0 s'/\s'.vals.length=ops.length:=by
 unfold Z4H at e
 split at e
 ·cases e
 · rename_i o ho
   have hk:=Z8F hq ho
   have hil:i<s.vals.length:=by rw[hl];exact (Y04.1 ho).1
   split at e
   ·cases e
   · rename_i env henv
     split at e
     ·cases e
     · rename_i hb
       have hnew:∀(v:AV),(Z09 ops env o=true->Z02 P (Z0G gl env) H0 o=some v)->QI P gl ops an tm H0 ⟨s.vals.set i (some v),Nat.lor s.done (2 ^ i),s.base,s.new,s.heap,s.sts⟩/\(s.vals.set i (some v)).length=ops.length:=by
        intro v hv
        have hle:VLe s.vals (s.vals.set i (some v)):=ZbX λu hu=>hb (h.vdone i u hu)
        refine⟨⟨h.base,h.heap,h.sts,λj hj=>?_,λj u hu=>?_⟩,by simpa using hl⟩
        · rcases (Z4p _ _ _).1 hj with hj|rfl
          · obtain⟨o',env',v',h1,h2⟩:=h.done j hj
            exact⟨o',env',v',h1.mono hle,h2⟩
          ·exact⟨o,env,v,⟨ho,Z1L hle _ _ henv,by simp[hil]⟩,hv⟩
        · refine (Z4p _ _ _).2 ?_
          simp only[Y0n]at hu
          split at hu
          ·rename_i e;exact .inr e
          ·exact .inl (h.vdone j u hu)
       split at e
       ·rename_i hk2;omega
       ·rename_i hk2;omega
       · split at e
         · rename_i hw
           split at e
           · rename_i r hr
             rw[Z1z]at e
             simp at e;subst e
             rw[h.heap]at hr
             exact hnew r λ_=>hr
           ·cases e
         · rename_i hw
           simp at e;subst e
           exact hnew _ λh=>absurd h hw
theorem ZdB{ops:List Oper}{an:List Nat}{tm:Tr}{H0:Z00}(hq:Z7n ops=true):∀{l:List Nat}{s s':DSt},s.vals.length=ops.length->QI P gl ops an tm H0 s->Z43 P gl orc ops an tm l s=some s'->QI P gl ops an tm H0 s'
 |[],s,s',hl,h,e=>by simp[Z43]at e;subst e;exact h
 |i::l,s,s',hl,h,e=>by
  simp only[Z43]at e
  split at e
  · rename_i s1 h1
    obtain⟨g1,g2⟩:=ZiS P gl orc hq hl h h1
    exact ZdB hq g2 g1 e
  ·cases e
theorem Z6g{ops:List Oper}{an:List Nat}{tm:Tr}{H0:Z00}{s:DSt}(h:QI P gl ops an tm H0 s):∀(l:List Oper)(j:Nat),(∀i,i<l.length->bit s.done (j+i)=true/\∃o,ops[j+i]? = some o/\l[i]? = some o)->Z18 P gl tm ops an s l j=true
 |[],j,hd=>rfl
 |o::l,j,hd=>by
  simp only[Z18,Y01]
  refine⟨?_,Z6g h l (j+1) λi hi=>?_⟩
  · split
    · obtain⟨h1,o',h2,h3⟩:=hd 0 (by simp)
      simp only[Nat.add_zero]at h1 h2
      simp at h3;subst h3
      obtain⟨o2,env,v,hat,hv⟩:=h.done j h1
      have:o2=o:=by have:=hat.op;rw[h2]at this;simpa using this.symm
      subst this
      simp only[hat.val,hat.env]
      split
      · rename_i hw
        rw[h.sts,h.base]
        simp only[stages,hv hw,Z1t,Bool.true_or]
      ·rfl
    ·rfl
  · obtain⟨h1,o',h2,h3⟩:=hd (i+1) (by simpa using hi)
    rw[show j+(i+1)=j+1+i from by omega]at h1 h2
    exact⟨h1,o',h2,by simpa using h3⟩
def frcNL:List Nat->(List Nat->Prop)->Prop
 |[],k=>k []
 |n::l,k=>Z2y n λn=>frcNL l λl=>k (n::l)
theorem Z9M:∀(l:List Nat)(k:List Nat->Prop),frcNL l k=k l
 |[],k=>rfl
 |n::l,k=>by simp only[frcNL,Z3u,Z9M l]
noncomputable def Zgu(ops:List Oper)(tm:Tr)(H:Z00)(k:Tr->Z00->Prop):Prop :=
 frcNL (Z0R ops []) λan =>
 match Z4X ops an ops 0&&Z4I an 0 with
 |true=>frcNL (Z7o ops an) λord=>Zgt P gl orc cw ops an ord tm 0 H [] H [] [] λtmc done base nw heap sts recs =>
  match Z45 an (Z0f sts)&&Y00 (done+1) (2 ^ ops.length) with
  |true=>match Z7n ops with
   |true=>k tmc heap
   |false=>match nw with
    |[]=>ZbS P gl an sts base (k tmc heap) recs
    |_::_=>Z51 P gl an sts base nw heap (k tmc heap) recs
  |false=>False
 |false=>False
theorem Zaq{ops:List Oper}{an:List Nat}:∀{l:List Oper}{j i:Nat}{o:Oper},Z4X ops an l j=true->l[i]? = some o->Z0N ops an (j+i) o=true
 |[],j,i,o,h,ho=>by simp at ho
 |x::l,j,i,o,h,ho=>by
  simp only[Z4X,Y01]at h
  cases i with
  |zero=>simp at ho;subst ho;exact h.1
  |succ i=>have:=Zaq h.2 (by simpa using ho);rwa [show j+1+i=j+(i+1) from by omega]at this
theorem ZdD(hcw:ZbN P orc cw){ops:List Oper}{tm:Tr}{H:Z00}{k:Tr->Z00->Prop}(h:Zgu P gl orc cw ops tm H k):∃tm' H',Z6D P gl orc ops tm H=some (tm',H')/\k tm' H':=by
 unfold Zgu at h
 rw[Z9M]at h
 split at h
 · rename_i h1
   have h1':=h1
   simp only[Y01]at h1'
   have htm:∀i o,ops[i]? = some o->Z0N ops (Z0R ops []) i o=true:=λi o ho=>by have:=Zaq h1'.1 ho;rwa [Y02]at this
   have hb:∀i,i<ops.length->(Z0R ops []).getD i 0<2 ^ i:=λi hi=>by have:=Z20 _ 0 i h1'.2 (by rw[Z3i];exact hi);rwa [Y02]at this
   rw[Z9M]at h
   obtain⟨s,tmc,recs,h2,hW,h⟩:=Zbe P gl orc cw hcw (tm:=tm) (tmc:=tm) (s:=⟨Z0Y ops,0,H,[],H,[]⟩) (recs:=[]) htm hb
    ⟨VInv.start ops _ tm,⟨λr hr=>by simp at hr,λj o env v hj=>by rw[Z1c]at hj;cases hj⟩,λk hk=>(by rw[Z1c]at hk;cases hk),λt=>rfl,shp.refl tm⟩ h
   split at h
   · rename_i h3
     have h3':=h3
     simp only[Y01]at h3'
     have hdone:=Y05 h3'.2
     have hall:∀i,i<ops.length->bit s.done i=true:=λi hi=>by rw[ZdM hdone];simpa using hi
     have hfin:∃tm',Z1A s.vals ops 0 tm=some tm':=Z3Y ops 0 tm (λk hk=>by rw[Y02];exact hW.v.known k (hall k hk)) λo ho d hd=>by
      obtain⟨k,hk,hko⟩:=Y0m.1 ho
      obtain⟨x,hx⟩:=hW.v.dst k o d (hall k hk) (by rw[<- hko];exact Y07 hk) hd
      rw[<- hW.ex];exact Z6J _ _ _ hx
     obtain⟨tm',hfin⟩:=hfin
     have fin:Z18 P gl tm ops (Z0R ops []) s ops 0=true->Z6D P gl orc ops tm H=some (tm',s.heap):=by
      intro h4
      unfold Z6D
      simp only[h1,if_true,h2,h3'.1,h3'.2,h4,Y0e,hfin]
     have hget:∀t,Z11 tm' t=Z11 tmc t:=λt=>by
      rw[(Z2J ops 0 tm tm' hfin).2 t _ rfl,<- hW.v.cur t]
      exact Z15 ops 0 _ λk o hk _=>by
       rw[Y02]
       exact (hall k (Y04.1 hk).1).symm
     have hex:∀t,tex tm' t=tex tmc t:=λt=>by rw[Z4C hfin t,hW.ex t]
     have heq:tm'=tmc:=ZbW ((Z7P hfin).symm.trans hW.sh) hget hex
     subst heq
     split at h
     · rename_i hq
       refine⟨tm',s.heap,fin ?_,h⟩
       have hqi:=ZdB P gl orc hq (Z1B ops) (QI.start P gl ops (Z0R ops []) tm H) h2
       exact Z6g P gl hqi ops 0 λi hi=>⟨by rw[Y02];exact hall i hi,ops[i],by simp[hi],by simp[hi]⟩
     · split at h
       · obtain⟨h4,h⟩:=Z8v P gl h
         exact⟨tm',s.heap,fin (Z5B P gl hW (λr hr=>by rw[h4 r hr];rfl) ops 0 λi hi=>⟨by rw[Y02];exact hall i hi,by rw[Y02]⟩),h⟩
       · skip
         obtain⟨h4,h⟩:=Z7a P gl h
         exact⟨tm',s.heap,fin (Z5B P gl hW h4 ops 0 λi hi=>⟨by rw[Y02];exact hall i hi,by rw[Y02]⟩),h⟩
   ·exact h.elim
 ·exact h.elim
end reg
end Go.Abs
end
section
namespace Go.Abs
open Go.RowKit
structure Stq (k:Nat) (sn:Z0h) (ι : Z0g) (H:Z00) (W:World) (sn':Z0h) (ι':Z0g) (H':Z00) (W':World):Prop where
 rel:R sn' ι' H' W'
 le:∀a v,sn a=some v->sn' a=some v
 fresh:∀(b:Nat)(o:AObj) p,H'[b]? = some o->o.alive=true -> ι' b=some p->W.heap.size<=p.blk\/∃ (b0:Nat) (o0:AObj) (p0:Place),H[b0]? = some o0/\o0.alive=true /\ ι b0=some p0/\p0.blk=p.blk
 frame:∀c,c<W.heap.size->(∀(b:Nat)(o:AObj) p,H[b]? = some o->o.alive=true -> ι b=some p->p.blk≠c)->W'.heap[c]? = W.heap[c]?
 size:W.heap.size<=W'.heap.size
 os:W'.os=W.os
 tape:W'.tape=W.tape
 output:W'.output=W.output
 sfresh:∀a v,sn' a=some v->sn a=some v\/W.heap.size<=a.block\/∃ (b0:Nat) (o0:AObj) (p0:Place),H[b0]? = some o0/\o0.alive=true /\ ι b0=some p0/\p0.blk=a.block
 keep:∀b p,b<k -> ι b=some p -> ι' b=some p
theorem Stp.q{k:Nat}{sn sn':Z0h}{ι ι':Z0g}{H H':Z00}{W W':World}(h0:R sn ι H W)(h:Stp sn ι H W sn' ι' H' W'):Stq k sn ι H W sn' ι' H' W':=by
 refine⟨h.rel,h.le.sn,λb o p hb ha hp=>?_,h.frame,h.size,h.os,h.tape,h.output,h.sfresh,λb p _ hp=>h.le.ι b p hp⟩
 rcases h.fresh b p hp with h1|h1|h1
 · have hbl:b<H.length:=(h0.dom b).2 ⟨p,h1⟩
   have hg:H[b]? = some H[b]:=Y07 hbl
   obtain⟨o',e1,_,_,e4⟩:=h.evo b _ hg
   rw[hb]at e1;simp at e1;subst e1
   exact .inr ⟨b,_,p,hg,e4 ha,h1,rfl⟩
 ·exact .inl h1
 ·exact .inr h1
theorem Stq.refl{k:Nat}{sn:Z0h}{ι : Z0g}{H:Z00}{W:World}(h:R sn ι H W):Stq k sn ι H W sn ι H W:=(Stp.refl h).q h
theorem Stq.trans{n:Nat}{sn sn1 sn2:Z0h}{ι ι1 ι2:Z0g}{H H1 H2:Z00}{W W1 W2:World}(h:Stq n sn ι H W sn1 ι1 H1 W1)(k:Stq n sn1 ι1 H1 W1 sn2 ι2 H2 W2):Stq n sn ι H W sn2 ι2 H2 W2:=by
 have via : ∀ c, (W1.heap.size <= c \/ ∃ (b0 : Nat) (o0 : AObj) (p0 : Place), H1[b0]? = some o0 /\ o0.alive = true /\ ι1 b0 = some p0 /\ p0.blk = c) ->
   W.heap.size<=c\/∃ (b0:Nat) (o0:AObj) (p0:Place),H[b0]? = some o0/\o0.alive=true /\ ι b0=some p0/\p0.blk=c:=by
  rintro c (h1|⟨b1,o1,p1,g1,g2,g3,rfl⟩)
  ·exact .inl (Nat.le_trans h.size h1)
  ·exact h.fresh b1 o1 p1 g1 g2 g3
 refine⟨k.rel,λa v e=>k.le a v (h.le a v e),λb o p hb ha hp=>via _ (k.fresh b o p hb ha hp),λc hc hno=>?_,Nat.le_trans h.size k.size,k.os.trans h.os,k.tape.trans h.tape,k.output.trans h.output,λa v hv=>?_,λb p hb hp=>k.keep b p hb (h.keep b p hb hp)⟩
 · rw[k.frame c (by have:=h.size;omega),h.frame c hc hno]
   intro b o p hb ha hp e
   rcases h.fresh b o p hb ha hp with h1|⟨b0,o0,p0,e1,e2,e3,e4⟩
   ·omega
   ·exact hno b0 o0 p0 e1 e2 e3 (by omega)
 · rcases k.sfresh a v hv with h1|h1
   ·exact h.sfresh a v h1
   ·exact .inr (via _ h1)
def iot(m:List Nat)(ι : Z0g):Z0g:=λb=>match m[b]? with|some j=>ι j|none=>none
def Wk(m:List Nat)(u u2:AV):Prop:=∀sn ι v,VR sn ι u v->VR sn (iot m ι) u2 v
theorem Wk.noref{m:List Nat}{u:AV}(h:refs u []=[]):Wk m u u:=λsn ι v hv=>Z1h u [] v (λb hb=>by rw[h]at hb;cases hb) hv
theorem Wk.int{m:List Nat}{k:IntKind}{a b:Int}(h:a=b):Wk m (.int k a) (.int k b):=by subst h;exact Wk.noref rfl
theorem Wk.bool{m:List Nat}{a b:Bool}(h:a=b):Wk m (.bool a) (.bool b):=by subst h;exact Wk.noref rfl
theorem Wk.str{m:List Nat}{a b:List UInt8}(h:a=b):Wk m (.str a) (.str b):=by subst h;exact Wk.noref rfl
theorem Wk.ptr{m:List Nat}{b b2 off off2:Nat}(h:m[b2]? = some b)(e:off=off2):Wk m (.ptr b off) (.ptr b2 off2):=by
 subst e
 intro sn ι v hv
 obtain⟨p,h1,h2⟩:=hv.ptr
 simp only[VR];exact⟨p,by simp only[iot,h];exact h1,h2⟩
theorem Wk.map{m:List Nat}{b b2:Nat}(h:m[b2]? = some b):Wk m (.map b) (.map b2):=by
 intro sn ι v hv
 obtain⟨p,h1,h2⟩:=hv.map
 simp only[VR];exact⟨p,by simp only[iot,h];exact h1,h2⟩
theorem Wk.slice{m:List Nat}{b b2 off off2 len len2 c c2 z z2:Nat}(h:m[b2]? = some b)(eo:off=off2)(el:len=len2)(h1:len2<=c2)(h2:c2<=c)(ez:z=z2):Wk m (.slice b off len c z) (.slice b2 off2 len2 c2 z2):=by
 subst eo;subst el;subst ez
 intro sn ι v hv
 obtain⟨p,a,cap',g1,rfl,g2,g3,g4⟩:=hv.slice
 simp only[VR];exact⟨p,a,cap',by simp only[iot,h];exact g1,rfl,h1,by omega,g4⟩
def WkL(m:List Nat):List AV->List AV->Prop
 |[],[]=>True
 |a::l,b::l2=>Wk m a b/\WkL m l l2
 |_,_=>False
theorem WkL.lr{m:List Nat}{sn:Z0h}{ι : Z0g}:∀{l l2:List AV}{vs:List Value},WkL m l l2->LR sn ι l vs->LR sn (iot m ι) l2 vs
 |[],[],vs,h,hv=>by simpa[LR]using hv
 |a::l,b::l2,vs,h,hv=>by
  simp only[LR]at hv⊢
  obtain⟨d,ds,rfl,h1,h2⟩:=hv
  exact⟨d,ds,rfl,h.1 _ _ _ h1,WkL.lr h.2 h2⟩
 |[],_::_,vs,h,hv=>h.elim
 |_::_,[],vs,h,hv=>h.elim
theorem Wk.agg{m:List Nat}{l l2:List AV}(h:WkL m l l2):Wk m (.agg l) (.agg l2):=by
 intro sn ι v hv
 obtain⟨d,rfl,h2⟩:=hv.agg
 exact Z4t (h.lr h2)
theorem Wk.func{m:List Nat}{fn:Fn}{f f2 c c2:List AV}(h:WkL m f f2)(k:WkL m c c2):Wk m (.func fn f c) (.func fn f2 c2):=by
 intro sn ι v hv
 obtain⟨x,y,rfl,h1,h2⟩:=hv.func
 simp only[VR];exact⟨x,y,rfl,h.lr h1,k.lr h2⟩
def ZoW(m:List Nat)(t t2:Tr):Prop:=(∀n u2,Z11 t2 n=some u2->∃u,Z11 t n=some u/\Wk m u u2)/\∀n,tex t2 n=true->tex t n=true
def Z5N:(Nat->Option AV)->Tr->Tr
 |_,.leaf=>.leaf
 |g,.node x l r=>.node (match x with|some _=>some (g 0)|none=>none) (Z5N (λi=>g (Nat.add (Nat.mul 2 i) 1)) l) (Z5N (λi=>g (Nat.add (Nat.mul 2 i) 2)) r)
theorem Z6O:∀(t:Tr)(g:Nat->Option AV)(n:Nat)(u:AV),Z11 (Z5N g t) n=some u->g n=some u
 | .leaf,g,n,u,h=>by simp[Z5N,Z11]at h
 | .node x l r,g,0,u,h=>by cases x<;>simp[Z5N,Z11]at h;exact h
 | .node x l r,g,n+1,u,h=>by
  simp only[Z5N,Z11]at h
  split at h
  · rename_i hn
    have:=Z6O l _ _ u h
    have hn':n % 2=0:=hn
    have e:Nat.add (Nat.mul 2 (Nat.div n 2)) 1=n+1:=by show 2*(n / 2)+1=n+1;omega
    rw[e]at this;exact this
  · rename_i hn
    have:=Z6O r _ _ u h
    have hn':¬n % 2=0:=hn
    have e:Nat.add (Nat.mul 2 (Nat.div n 2)) 2=n+1:=by show 2*(n / 2)+2=n+1;omega
    rw[e]at this;exact this
theorem Z9I:∀(t:Tr)(g:Nat->Option AV)(n:Nat),tex (Z5N g t) n=tex t n
 | .leaf,g,n=>rfl
 | .node x l r,g,0=>by cases x<;>rfl
 | .node x l r,g,n+1=>by
  simp only[Z5N,tex]
  split<;>exact Z9I _ _ _
def ZbI:Tr->Tr->Bool
 | .leaf,_=>true
 | .node x l r,.node y l2 r2=>(match x,y with|some _,none=>false|_,_=>true)&&(ZbI l l2&&ZbI r r2)
 | .node ..,.leaf=>false
theorem Z9l:∀{t t2:Tr},ZbI t t2=true->∀n,tex t n=true->tex t2 n=true
 | .leaf,t2,h,n,e=>by simp[tex]at e
 | .node x l r,.node y l2 r2,h,0,e=>by
  simp only[ZbI,Y01]at h
  cases x with
  |none=>simp[tex]at e
  |some x=>cases y with
   |none=>simp at h
   |some y=>rfl
 | .node x l r,.node y l2 r2,h,n+1,e=>by
  simp only[ZbI,Y01]at h
  simp only[tex]at e⊢
  split at e
  ·exact Z9l h.2.1 _ e
  ·exact Z9l h.2.2 _ e
 | .node ..,.leaf,h,n,e=>by simp[ZbI]at h
def SlotsGe(m:List Nat)(t:Tr):List (Nat×AV)->Prop
 |[]=>True
 |(n,u2)::l=>(onO (Z11 t n) λu=>Wk m u u2)/\SlotsGe m t l
theorem SlotsGe.get{m:List Nat}{t:Tr}:∀{l:List (Nat×AV)},SlotsGe m t l->∀n u2,Z1N n l=some u2->∃u,Z11 t n=some u/\Wk m u u2
 |[],h,n,u2,e=>by simp[Z1N]at e
 |(k,v)::l,h,n,u2,e=>by
  simp only[Z1N]at e
  split at e
  · rename_i hk
    have:=Y05 hk;subst this
    simp at e;subst e
    exact Z01 h.1
  ·exact h.2.get n u2 e
def EGe(m:List Nat):List (AV×AV×Nat)->List (AV×AV×Nat)->Prop
 |[],[]=>True
 |(k,v,n)::l,(k2,v2,n2)::l2=>Wk m k k2/\Wk m v v2/\n=n2/\EGe m l l2
 |_,_=>False
theorem EGe.er{m:List Nat}{sn:Z0h}{ι : Z0g}:∀{l l2:List (AV×AV×Nat)}{es:List MapEntry},EGe m l l2->ER sn ι l es->ER sn (iot m ι) l2 es
 |[],[],es,h,e=>by simpa[ER]using e
 |(k,v,n)::l,(k2,v2,n2)::l2,es,h,e=>by
  obtain⟨h1,h2,rfl,h4⟩:=h
  simp only[ER]at e⊢
  obtain⟨x,l',rfl,g1,g2,g3,g4⟩:=e
  exact⟨x,l',rfl,h1 _ _ _ g1,h2 _ _ _ g2,g3,h4.er g4⟩
 |[],_::_,es,h,e=>h.elim
 |_::_,[],es,h,e=>h.elim
def TSGe(m:List Nat):List (Nat×AV)->List (Nat×AV)->Prop
 |[],[]=>True
 |x::l,y::l2=>x.1=y.1/\Wk m x.2 y.2/\TSGe m l l2
 |_,_=>False
theorem TSGe.tsr{m:List Nat}{sn:Z0h}{ι : Z0g}{a:Array Value}:∀{l l2:List (Nat×AV)},TSGe m l l2->TSR sn ι l a->TSR sn (iot m ι) l2 a
 |[],[],_,_=>trivial
 |x::l,y::l2,⟨h1,h2,h3⟩,⟨⟨v,e1,e2⟩,e3⟩=>⟨⟨v,h1 ▸ e1,h2 _ _ _ e2⟩,h3.tsr e3⟩
 |[],_::_,h,_=>h.elim
 |_::_,[],h,_=>h.elim
def BodyGe(m:List Nat):ABody->ABody->Prop
 | .cells cs ty,.cells cs2 ty2=>ty=ty2/\cs2.length<=cs.length/\∀(i:Nat)(c2:AV),cs2[i]? = some c2->∃c,cs[i]? = some c/\Wk m c c2
 | .map es c,.map es2 c2=>c=c2/\EGe m es es2
 | .siter s p,.siter s2 p2=>s=s2/\p=p2
 | .loop g ts,.loop g2 ts2=>g=g2/\TSGe m ts ts2
 |_,_=>False
theorem BodyGe.pre{m:List Nat}{cs cs2 rest:List AV}{ty:TypeId}(e:cs=cs2++rest)(h:refsL cs2 []=[]):BodyGe m (.cells cs ty) (.cells cs2 ty):=by
 subst e
 refine⟨rfl,by simp,λi c hc=>⟨c,?_,λsn ι v hv=>?_⟩⟩
 ·rw[Y0j (Y04.1 hc).1];exact hc
 · have key : ∀ (l : List AV), refsL l [] = [] -> ∀ (i : Nat) (c : AV), l[i]? = some c -> ∀ b, b ∈ refs c [] -> False := by
    intro l
    induction l with
    |nil=>intro _ i c hc;simp at hc
    |cons x l ih =>
     intro hl i c hc b hb
     have hx:∀y,y∈refs x (refsL l [])->False:=λy hy=>by simp only[refsL]at hl;rw[hl]at hy;cases hy
     have hl':refsL l []=[]:=by
      rw[List.eq_nil_iff_forall_not_mem];intro y hy;exact hx y (Z1w x _ y hy)
     cases i with
     |zero=>simp at hc;subst hc;rw[hl']at hx;exact hx b hb
     |succ i=>exact ih hl' i c (by simpa using hc) b hb
   exact Z1h c [] v (λb hb=>(key cs2 h i c hc b hb).elim) hv
theorem BodyGe.cellsL{m:List Nat}{cs cs2:List AV}{ty:TypeId}(h:WkL m cs cs2):BodyGe m (.cells cs ty) (.cells cs2 ty):=by
 refine⟨rfl,?_,?_⟩
 · have : ∀ (l l2 : List AV), WkL m l l2 -> l2.length <= l.length := by
    intro l
    induction l with
    |nil=>intro l2 h;cases l2 with|nil=>simp|cons _ _=>exact h.elim
    |cons x l ih=>intro l2 h;cases l2 with|nil=>exact h.elim|cons _ _=>simp;exact ih _ h.2
   exact this _ _ h
 · have : ∀ (l l2 : List AV), WkL m l l2 -> ∀ (i : Nat) (c2 : AV), l2[i]? = some c2 -> ∃ c, l[i]? = some c /\ Wk m c c2 := by
    intro l
    induction l with
    |nil=>intro l2 h i c2 hc;cases l2 with|nil=>simp at hc|cons _ _=>exact h.elim
    |cons x l ih =>
     intro l2 h i c2 hc
     cases l2 with
     |nil=>exact h.elim
     |cons y l2=>cases i with
      |zero=>simp at hc;subst hc;exact⟨x,rfl,h.1⟩
      |succ i=>simpa using ih _ h.2 i c2 (by simpa using hc)
   exact this _ _ h
theorem BodyGe.or{m:List Nat}{sn:Z0h}{ι : Z0g}{W:World}{p:Place}:∀{b b2:ABody},BodyGe m b b2->OR sn ι W b p->OR sn (iot m ι) W b2 p
 | .cells cs ty,.cells cs2 ty2,h,e=>by
  obtain⟨rfl,h1,h2⟩:=h
  simp only[OR]at e⊢
  obtain⟨arr,g1,g2,g3,g4⟩:=e
  refine⟨arr,g1,g2,by omega,λi c2 hc=>?_⟩
  obtain⟨c,e1,e2⟩:=h2 i c2 hc
  obtain⟨v,e3,e4⟩:=g4 i c e1
  exact⟨v,e3,e2 _ _ _ e4⟩
 | .map es c,.map es2 c2,h,e=>by
  obtain⟨rfl,h1⟩:=h
  simp only[OR]at e⊢
  obtain⟨mes,g1,g2⟩:=e
  exact⟨mes,g1,h1.er g2⟩
 | .siter s q,.siter s2 q2,h,e=>by
  obtain⟨rfl,rfl⟩:=h
  simpa only[OR]using e
 | .loop g ts,.loop g2 ts2,h,e=>by
  obtain⟨rfl,h2⟩:=h
  simp only[OR]at e⊢
  obtain⟨r,g1,g2,g3,g4⟩:=e
  exact⟨r,g1,g2,g3,h2.tsr g4⟩
 | .cells _ _,.loop _ _,h,_=>h.elim
 | .map _ _,.loop _ _,h,_=>h.elim
 | .siter _ _,.loop _ _,h,_=>h.elim
 | .loop _ _,.cells _ _,h,_=>h.elim
 | .loop _ _,.map _ _,h,_=>h.elim
 | .loop _ _,.siter _ _,h,_=>h.elim
 | .cells _ _,.map _ _,h,_=>h.elim
 | .cells _ _,.siter _ _,h,_=>h.elim
 | .map _ _,.cells _ _,h,_=>h.elim
 | .map _ _,.siter _ _,h,_=>h.elim
 | .siter _ _,.cells _ _,h,_=>h.elim
 | .siter _ _,.map _ _,h,_=>h.elim
def HpGe(H:Z00)(m:List Nat):List Nat->Z00->Nat->Prop
 |[],[],_=>True
 |j::l,o2::H2,i=>(onO H[j]? λo=>o.alive=true/\o2.alive=true/\o2.fam=i/\o2.sh=o.sh/\BodyGe m o.body o2.body)/\HpGe H m l H2 (i+1)
 |_,_,_=>False
theorem HpGe.get{H:Z00}{m:List Nat}:∀{l:List Nat}{H2:Z00}{i:Nat},HpGe H m l H2 i->H2.length=l.length/\∀b,b<l.length->∃j o o2,l[b]? = some j/\H[j]? = some o/\H2[b]? = some o2/\o.alive=true/\o2.alive=true/\o2.fam=i+b/\o2.sh=o.sh/\BodyGe m o.body o2.body
 |[],[],i,h=>⟨rfl,λb hb=>by simp at hb⟩
 |j::l,o2::H2,i,h=>by
  obtain⟨h1,h2⟩:=h
  obtain⟨o,ho,e1,e2,e3,e4,e5⟩:=Z01 h1
  obtain⟨k1,k2⟩:=h2.get
  refine⟨by simp[k1],λb hb=>?_⟩
  cases b with
  |zero=>exact⟨j,o,o2,rfl,ho,rfl,e1,e2,e3,e4,e5⟩
  |succ b =>
   obtain⟨j',o',o2',x1,x2,x3,x4,x5,x6,x7,x8⟩:=k2 b (by simpa using hb)
   exact⟨j',o',o2',by simpa using x1,x2,by simpa using x3,x4,x5,by omega,x7,x8⟩
 |[],_::_,i,h=>h.elim
 |_::_,[],i,h=>h.elim
def Z1b(H:Z00)(j:Nat):Nat:=match H[j]? with|some o=>o.fam|none=>0
def Z0H:List Nat->Bool
 |[]=>true
 |n::l=>!(mem n l)&&Z0H l
theorem Z5K:∀{l:List Nat}{i j:Nat}{x:Nat},Z0H l=true->l[i]? = some x->l[j]? = some x->i=j
 |[],i,j,x,h,hi,hj=>by simp at hi
 |n::l,i,j,x,h,hi,hj=>by
  simp only[Z0H,Y01,Y0o]at h
  have nm:∀k,l[k]? = some n->False:=λk hk=>by
   have:mem n l=true:=mem_iff.2 (Y0b hk)
   rw[h.1]at this;cases this
  cases i with
  |zero=>cases j with
   |zero=>rfl
   |succ j=>simp at hi hj;subst hi;exact (nm j hj).elim
  |succ i=>cases j with
   |zero=>simp at hi hj;subst hj;exact (nm i hi).elim
   |succ j=>simp at hi hj;rw[Z5K h.2 hi hj]
def ZhA:Nat->Nat->List Nat->Bool
 |0,_,_=>true
 |k+1,i,j::m=>Y00 j i&&ZhA k (i+1) m
 |_+1,_,[]=>false
theorem Zd8:∀{k i:Nat}{m:List Nat},ZhA k i m=true->∀b,b<k->m[b]? = some (i+b)
 |0,i,m,h,b,hb=>by omega
 |k+1,i,[],h,b,hb=>by simp[ZhA]at h
 |k+1,i,j::m,h,b,hb=>by
  simp only[ZhA,Y01]at h
  have:=Y05 h.1;subst this
  cases b with
  |zero=>simp
  |succ b=>have:=Zd8 h.2 b (by omega);simp only[List.getElem?_cons_succ,this];congr 1;omega
structure Fg (k:Nat) (m:List Nat) (tm:Tr) (H:Z00) (tm2:Tr) (H2:Z00):Prop where
 tr:ZoW m tm tm2
 hp:HpGe H m m H2 0
 fams:Z0H (m.map (Z1b H))=true
 kp:ZhA k 0 m=true
theorem Fg.sound{k:Nat}{m:List Nat}{tm tm2:Tr}{H H2:Z00}(h:Fg k m tm H tm2 H2){sn:Z0h}{ι : Z0g}{W:World}{a:Act}(hR:R sn ι H W)(ht:TRel sn ι tm a):Stq k sn ι H W sn (iot m ι) H2 W/\TRel sn (iot m ι) tm2 a:=by
 obtain⟨hl,hg⟩:=h.hp.get
 have at2:∀{b:Nat}{o2:AObj}{p:Place},H2[b]? = some o2->iot m ι b=some p->∃j o,m[b]? = some j/\H[j]? = some o /\ ι j=some p/\o.alive=true/\o2.alive=true/\o2.fam=b/\o2.sh=o.sh/\BodyGe m o.body o2.body:=by
  intro b o2 p hb hp
  obtain⟨j,o,o2',x1,x2,x3,x4,x5,x6,x7,x8⟩:=hg b (by rw[<- hl];exact (Y04.1 hb).1)
  rw[hb]at x3;simp at x3;subst x3
  simp only[iot,x1]at hp
  exact⟨j,o,x1,x2,hp,x4,x5,by omega,x7,x8⟩
 have hR2:R sn (iot m ι) H2 W:=by
  refine⟨λb=>⟨λhb=>?_,λ⟨p,hp⟩=>?_⟩,λb p hp=>?_,λb o2 p hb ha hp=>?_,λb b' o o' p p' hb hb' ha ha' hp hp' e=>?_,λad v hv=>?_,λb o2 p hb hp e=>?_⟩
  · obtain⟨j,o,o2,x1,x2,_⟩:=hg b (by omega)
    obtain⟨p,hp⟩:=hR.place x2
    exact⟨p,by simp only[iot,x1];exact hp⟩
  · unfold iot at hp
    split at hp
    ·rename_i j hj;rw[hl];exact (Y04.1 hj).1
    ·cases hp
  · unfold iot at hp
    split at hp
    ·exact hR.blk _ p hp
    ·cases hp
  · obtain⟨j,o,x1,x2,x3,x4,x5,x6,x7,x8⟩:=at2 hb hp
    exact x8.or (hR.obj j o p x2 x4 x3)
  · obtain⟨j,q,x1,x2,x3,x4,x5,x6,x7,x8⟩:=at2 hb hp
    obtain⟨j',q',y1,y2,y3,y4,y5,y6,y7,y8⟩:=at2 hb' hp'
    have hs:=hR.sep j j' q q' p p' x2 y2 x4 y4 x3 y3 e
    have:b=b':=Z5K (l:=m.map (Z1b H)) (x:=q.fam) h.fams (by simp[x1,Z1b,x2]) (by simp[y1,Z1b,y2,hs.1])
    subst this
    exact⟨by rw[x6,y6],by rw[x7,y7];exact hs.2⟩
  · obtain⟨h1,h2,h3⟩:=hR.snap ad v hv
    refine⟨h1,h2,λb o2 p hb ha hp=>?_⟩
    obtain⟨j,o,x1,x2,x3,x4,_⟩:=at2 hb hp
    exact h3 j o p x2 x4 x3
  · obtain⟨j,o,x1,x2,x3,x4,x5,x6,x7,x8⟩:=at2 hb hp
    exact hR.shz j o p x2 x3 (by omega)
 refine⟨⟨hR2,λ_ _ h=>h,λb o2 p hb ha hp=>?_,λ_ _ _=>rfl,Nat.le_refl _,rfl,rfl,rfl,λ_ _ h=>.inl h,λb p hb hp=>by have:=Zd8 h.kp b hb;simp only[Y02]at this;simp only[iot,this];exact hp⟩,λt u2 hu=>?_,λt hx=>ht.2 t (h.tr.2 t hx)⟩
 · obtain⟨j,o,x1,x2,x3,x4,_⟩:=at2 hb hp
   exact .inr ⟨j,o,p,x2,x4,x3,rfl⟩
 · obtain⟨u,h1,h2⟩:=h.tr.1 t u2 hu
   obtain⟨v,h3,h4⟩:=ht.1 t u h1
   exact⟨v,h3,h2 _ _ _ h4⟩
theorem Zb1{sn sn':Z0h}(h:∀a v,sn a=some v->sn' a=some v):Le sn sn' noI noI:=⟨h,λ_ _ h=>h⟩
def FgS(k:Nat)(tm:Tr)(H:Z00)(tm2:Tr)(H2:Z00):Prop :=
 ∀(sn:Z0h)(ι : Z0g)(W:World)(a:Act),R sn ι H W->TRel sn ι tm a->∃sn' ι',Stq k sn ι H W sn' ι' H2 W/\TRel sn' ι' tm2 a
theorem Fg.s{k:Nat}{m:List Nat}{tm tm2:Tr}{H H2:Z00}(h:Fg k m tm H tm2 H2):FgS k tm H tm2 H2:=λsn ι W a hR ht=>⟨sn,iot m ι,h.sound hR ht⟩
def FgLK(k:Nat)(t0 tm:Tr)(H:Z00)(l:List (Nat×AV))(H2:Z00):Prop :=
 match ZbI t0 tm with
 |true=>(∃m,ZhA k 0 m=true/\SlotsGe m tm l/\HpGe H m m H2 0/\Z0H (m.map (Z1b H))=true)\/FgS k tm H (Z5N (λn=>Z1N n l) t0) H2
 |false=>False
abbrev FgL:=FgLK 0
theorem FgLK.fg{k:Nat}{t0 tm:Tr}{H:Z00}{l:List (Nat×AV)}{H2:Z00}(h:FgLK k t0 tm H l H2):FgS k tm H (Z5N (λn=>Z1N n l) t0) H2:=by
 unfold FgLK at h
 split at h
 · rename_i hs
   rcases h with ⟨m,h0,h1,h2,h3⟩|h
   ·exact Fg.s (m:=m) ⟨⟨λn u2 e=>h1.get n u2 (Z6O _ _ _ _ e),λn e=>Z9l hs n (by rwa [Z9I]at e)⟩,h2,h3,h0⟩
   ·exact h
 ·exact h.elim
def Zlc(x:Option (Option AV))(k:Option (Option AV)->Prop):Prop:=match x with
 |none=>k none
 |some none=>k (some none)
 |some (some v)=>frc1 v λv=>k (some (some v))
theorem ZiD(x:Option (Option AV))(k:Option (Option AV)->Prop):Zlc x k=k x:=by
 cases x with
 |none=>rfl
 |some x=>cases x with
  |none=>rfl
  |some v=>simp only[Zlc,Z0o]
def Z1p:Tr->(Tr->Prop)->Prop
 | .leaf,k=>k .leaf
 | .node x l r,k=>Zlc x λx=>Z1p l λl=>Z1p r λr=>k (.node x l r)
theorem Z0m:∀(t:Tr)(k:Tr->Prop),Z1p t k=k t
 | .leaf,k=>rfl
 | .node x l r,k=>by simp only[Z1p,ZiD,Z0m l,Z0m r]
def Zlz(D:Nat):Deferred:={ target:=.collected D,args:=#[] }
def DefOK(W0:World)(d0:List Deferred)(ι : Z0g)(H:Z00)(W:World)(d:List Deferred):Prop :=
 ∃ds:List Nat,d=ds.map Zlz++d0/\ds.Nodup/\∀D∈ds,W0.heap.size<=D/\W.heap[D]? = some (.deferred (some []))/\∀(b:Nat)(o:AObj) p,H[b]? = some o->o.alive=true -> ι b=some p->p.blk≠D
theorem DefOK.eq{W0 W:World}{d0 d:List Deferred}{ι : Z0g}{H:Z00}(h:d=d0):DefOK W0 d0 ι H W d:=⟨[],by simp[h],List.nodup_nil,λ_ h=>by cases h⟩
theorem DefOK.trans{k:Nat}{W W1 W2:World}{d d1 d2:List Deferred}{sn1 sn2:Z0h}{ι1 ι2:Z0g}{H1 H2:Z00}(hs:W.heap.size<=W1.heap.size)(h:DefOK W d ι1 H1 W1 d1)(s:Stq k sn1 ι1 H1 W1 sn2 ι2 H2 W2)(h2:DefOK W1 d1 ι2 H2 W2 d2):DefOK W d ι2 H2 W2 d2:=by
 obtain⟨ds,rfl,n1,e1⟩:=h
 obtain⟨ds2,rfl,n2,e2⟩:=h2
 have hlt:∀D∈ds,D<W1.heap.size:=λD hD=>(Y0k.1 (e1 D hD).2.1).1
 refine⟨ds2++ds,by simp,?_,λD hD=>?_⟩
 · rw[List.nodup_append]
   refine⟨n2,n1,λa ha b hb e=>?_⟩
   subst e
   have:=(e2 a ha).1;have:=hlt a hb;omega
 · rcases Y0h.1 hD with hD|hD
   · obtain⟨g1,g2,g3⟩:=e2 D hD
     exact⟨by omega,g2,g3⟩
   · obtain⟨g1,g2,g3⟩:=e1 D hD
     refine⟨g1,by rw[s.frame D (hlt D hD) g3];exact g2,λb o p hb ha hp e=>?_⟩
     rcases s.fresh b o p hb ha hp with f1|⟨b0,o0,p0,f1,f2,f3,f4⟩
     ·have:=hlt D hD;omega
     ·exact g3 b0 o0 p0 f1 f2 f3 (f4.trans e)
structure Shut (ds:List Nat) (W W':World):Prop where
 other:∀c,c ∉ ds->W'.heap[c]? = W.heap[c]?
 size:W'.heap.size=W.heap.size
 os:W'.os=W.os
 tape:W'.tape=W.tape
 output:W'.output=W.output
theorem Stq.shut{k:Nat}{ds:List Nat}{sn sn1:Z0h}{ι ι1:Z0g}{H H1:Z00}{W W1 W2:World}(s:Stq k sn ι H W sn1 ι1 H1 W1)(hd:∀D∈ds,W.heap.size<=D/\W1.heap[D]? = some (.deferred (some []))/\∀(b:Nat)(o:AObj) p,H1[b]? = some o->o.alive=true -> ι1 b=some p->p.blk≠D)(h:Shut ds W1 W2):Stq k sn ι H W sn1 ι1 H1 W2:=by
 have hR:=s.rel
 refine⟨⟨hR.dom,λb p hp=>by rw[h.size];exact hR.blk b p hp,λb o p hb ha hp=>?_,hR.sep,λa v hv=>?_,hR.shz⟩,s.le,s.fresh,λc hc hno=>?_,by rw[h.size];exact s.size,h.os.trans s.os,h.tape.trans s.tape,h.output.trans s.output,s.sfresh,s.keep⟩
 ·exact Z0W (Le.refl _ _) (h.other _ λhm=>(hd _ hm).2.2 b o p hb ha hp rfl) (hR.obj b o p hb ha hp)
 · obtain⟨g1,g2,g3⟩:=hR.snap a v hv
   refine⟨by rw[h.size];exact g1,?_,g3⟩
   rw[World.cell?_of_block (h.other _ λhm=>?_)]
   ·exact g2
   · have:=(hd _ hm).2.1
     unfold World.cell? at g2
     rw[this]at g2;cases g2
 · rw[h.other c λhm=>by have:=(hd _ hm).1;omega]
   exact s.frame c hc hno
def Tri(P:Program)(gl:Glob)(rd:Option Nat)(k:Nat)(c:Code)(tm:Tr)(H:Z00)(Φ : AEx->Tr->Z00->Prop):Prop :=
 ∀(a:Act)(W:World)(sn:Z0h)(ι : Z0g)(Q:Exit->Act->World->Prop),GlOK gl sn->R sn ι H W->TRel sn ι tm a ->
  (∀x tm' H' a' W' sn' ι',Φ x tm' H'->Stq k sn ι H W sn' ι' H' W'->TRel sn' ι' tm' a'->DefOK W a.defers ι' H' W' a'.defers->Q (Znv x) a' W')->c.wpIn (Fq rd) 0 P Q a W
def Znu(kn:Tr->Z00->Prop)(kx:Nat->Tr->Z00->Prop)(kr:Tr->Z00->Prop)(x:AEx)(tm:Tr)(H:Z00):Prop:=match x with
 | .normal=>kn tm H
 | .exit id=>kx id tm H
 | .ret=>kr tm H
def Z6A(k:Nat)(body:(Tr->Z00->Prop)->Tr->Z00->Prop)(tm:Tr)(H:Z00):Prop :=
 ∃ (S:Type) (I:S->Prop) (L:S->List (Nat×AV)) (B:S->Z00) (μ : S->Nat),(∃s,I s/\FgLK k tm tm H (L s) (B s)) /\
  ∀s,I s->Z1p (Z5N (λn=>Z1N n (L s)) tm) λtm1=>frcHW (B s) λH1=>body (λtm' H'=>∃s',I s' /\ μ s'<μ s/\FgLK k tm tm' H' (L s') (B s')) tm1 H1
abbrev KN:=Tr->Z00->Prop
abbrev KX:=Nat->Tr->Z00->Prop
structure LH where
 lp:((Tr->Z00->Prop)->Tr->Z00->Prop)->Tr->Z00->Prop
 rf:AV->Array Tmp->Code->Code->KN->KX->KN->Tr->Z00->Prop
def Zot:AV->Array Tmp->Code->Code->KN->KX->KN->Tr->Z00->Prop:=λ_ _ _ _ _ _ _ _ _=>False
def Z5b:LH:=⟨λ_ _ _=>False,Zot⟩
def Zf1(k:Nat):LH:=⟨Z6A k,Zot⟩
abbrev Zf2:=Zf1 0
noncomputable def Z21(P:Program)(gl:Glob)(orc:Orc)(cw:CW)(lh:LH)(c:Code):KN->KX->KN->Tr->Z00->Prop :=
 Code.rec (motive:=λ_=>KN->KX->KN->Tr->Z00->Prop)
  (λkn _ _ tm H=>kn tm H)
  (fun _ ops draw kn _ _ tm H => match draw with
    |true=>Zgu P gl orc cw ops.toList tm H kn
    |false=>Zky P gl orc cw ops.toList ops.toList tm H kn)
  (λ_ _ iha ihb kn kx kr tm H=>iha (λtm H=>ihb kn kx kr tm H) kx kr tm H)
  (fun c _ _ iha ihb kn kx kr tm H => onO (Z1E gl tm c) fun v => match v with
    | .bool t=>(t=true->iha kn kx kr tm H)/\(t=false->ihb kn kx kr tm H)
    |_=>False)
  (λid _ ih kn kx kr tm H=>ih kn (λid' tm H=>match Y00 id' id with|true=>kn tm H|false=>kx id' tm H) kr tm H)
  (λ_ ih _ kx kr tm H=>lh.lp (λkn tm H=>ih kn kx kr tm H) tm H)
  (λf ps asg bd _ _ kn kx kr tm H=>onO (Z1E gl tm f) λv=>lh.rf v ps asg bd kn kx kr tm H)
  (λid _ kx _ tm H=>kx id tm H)
  (λ_ _ _ _ _ _ _=>False)
  (λ_ _ _ _ _ _=>False)
  (λ_ _ _ _ _ _=>False)
  (λ_ _ kr tm H=>kr tm H)
  (λ_ _ _ _ _ _=>False) c
section code
variable {P:Program} {gl:Glob} {orc:Orc} {k:Nat} {rd:Option Nat}
theorem Tri.mono{c:Code}{tm:Tr}{H:Z00}{Φ Ψ : AEx->Tr->Z00->Prop}(h:Tri P gl rd k c tm H Φ)(hk:∀x tm' H',Φ x tm' H' -> Ψ x tm' H'):Tri P gl rd k c tm H Ψ :=
 λa W sn ι Q hg hR ht hQ=>h a W sn ι Q hg hR ht λx tm' H' a' W' sn' ι' hx=>hQ x tm' H' a' W' sn' ι' (hk _ _ _ hx)
theorem Tri.seq{c d:Code}{tm:Tr}{H:Z00}{Φ : AEx->Tr->Z00->Prop}(h:Tri P gl rd k c tm H λx tm1 H1=>match x with | .normal=>Tri P gl rd k d tm1 H1 Φ | x=>Φ x tm1 H1):Tri P gl rd k (.seq c d) tm H Φ:=by
 intro a W sn ι Q hg hR ht hQ
 refine wpIn_seq (h a W sn ι _ hg hR ht λx tm1 H1 a1 W1 sn1 ι1 hx s1 t1 d1=>?_)
 cases x with
 |normal =>
  show Code.wpIn (Fq rd) 0 P d Q a1 W1
  refine hx a1 W1 sn1 ι1 Q (hg.mono (Zb1 s1.le)) s1.rel t1 λx tm2 H2 a2 W2 sn2 ι2 hx2 s2 t2 d2=>?_
  exact hQ _ _ _ _ _ _ _ hx2 (s1.trans s2) t2 (DefOK.trans s1.size d1 s2 d2)
 |exit id=>exact hQ (.exit id) tm1 H1 _ _ _ _ hx s1 t1 d1
 |ret=>exact hQ .ret tm1 H1 _ _ _ _ hx s1 t1 d1
theorem Tri.forget{c:Code}{tm:Tr}{H:Z00}{Φ : AEx->Tr->Z00->Prop}{tm2:Tr}{H2:Z00}(hf:FgS k tm H tm2 H2)(h:Tri P gl rd k c tm2 H2 Φ):Tri P gl rd k c tm H Φ:=by
 intro a W sn ι Q hg hR ht hQ
 obtain⟨sn1,ι1,s1,t1⟩:=hf sn ι W a hR ht
 exact h a W sn1 ι1 Q (hg.mono (Zb1 s1.le)) s1.rel t1 λx tm' H' a' W' sn' ι' hx s2 t2 d2=>hQ x tm' H' a' W' sn' ι' hx (s1.trans s2) t2 d2
theorem Tri.loop {b : Code} {S : Type} {I : S -> Prop} {T : S -> Tr} {B : S -> Z00} {μ : S -> Nat} {Φ : AEx -> Tr -> Z00 -> Prop}
  (h:∀s,I s->Tri P gl rd k b (T s) (B s) λx tm' H'=>match x with | .normal=>∃s',I s' /\ μ s'<μ s/\FgS k tm' H' (T s') (B s')|x=>Φ x tm' H') {s:S} (h0:I s):Tri P gl rd k (.loop b) (T s) (B s) Φ:=by
 have key : ∀ (n : Nat) (s : S), μ s < n -> I s -> ∀ (a : Act) (W : World) (sn : Z0h) (ι : Z0g) (Q : Exit -> Act -> World -> Prop), GlOK gl sn -> R sn ι (B s) W -> TRel sn ι (T s) a ->
   (∀x tm' H' a' W' sn' ι',Φ x tm' H'->Stq k sn ι (B s) W sn' ι' H' W'->TRel sn' ι' tm' a'->DefOK W a.defers ι' H' W' a'.defers->Q (Znv x) a' W')->Code.roundsIn (Fq rd) 0 P b Q n a W:=by
  intro n
  induction n with
  |zero=>intro s hs;omega
  |succ n ih =>
   intro s hs hI a W sn ι Q hg hR ht hQ
   rw[roundsIn_succ]
   refine h s hI a W sn ι _ hg hR ht λx tm1 H1 a1 W1 sn1 ι1 hx s1 t1 d1=>?_
   cases x with
   |normal =>
    show Code.roundsIn (Fq rd) 0 P b Q n a1 W1
    obtain⟨s',hI',hs',hf⟩:=hx
    obtain⟨sn2,ι2,s2,t2⟩:=hf sn1 ι1 W1 a1 s1.rel t1
    refine ih s' (by omega) hI' a1 W1 sn2 ι2 Q ((hg.mono (Zb1 s1.le)).mono (Zb1 s2.le)) s2.rel t2 λx tm3 H3 a3 W3 sn3 ι3 hx3 s3 t3 d3=>?_
    exact hQ _ _ _ _ _ _ _ hx3 ((s1.trans s2).trans s3) t3 (DefOK.trans s1.size d1 (s2.trans s3) d3)
   |exit id=>exact hQ (.exit id) tm1 H1 _ _ _ _ hx s1 t1 d1
   |ret=>exact hQ .ret tm1 H1 _ _ _ _ hx s1 t1 d1
 intro a W sn ι Q hg hR ht hQ
 exact wpIn_loop_rounds (μ s+1) (key (μ s+1) s (by omega) h0 a W sn ι Q hg hR ht hQ)
def Zog(P:Program)(gl:Glob)(rd:Option Nat)(k:Nat)(rf:AV->Array Tmp->Code->Code->KN->KX->KN->Tr->Z00->Prop):Prop :=
 ∀f v ps asg bd kn kx kr tm H,Z1E gl tm f=some v->rf v ps asg bd kn kx kr tm H->Tri P gl rd k (.rangeFunc f ps asg bd) tm H (Znu kn kx kr)
theorem Z1s {rf : AV -> Array Tmp -> Code -> Code -> KN -> KX -> KN -> Tr -> Z00 -> Prop} (hrf : Zog P gl rd k rf) (hm : P.follows .mixedOrders = true) (hn : NoNum P) (hO : OrcSound P gl orc) {cw : CW} (hcw : ZbN P orc cw) : ∀ (c : Code) {kn : Tr -> Z00 -> Prop} {kx : Nat -> Tr -> Z00 -> Prop} {kr : Tr -> Z00 -> Prop} {tm : Tr} {H : Z00},
  Z21 P gl orc cw ⟨Z6A k,rf⟩ c kn kx kr tm H->Tri P gl rd k c tm H (Znu kn kx kr)
 | .skip,kn,kx,kr,tm,H,h=>λa W sn ι Q hg hR ht hQ=>by
  exact wpIn_skip (hQ .normal tm H a W sn ι h (Stq.refl hR) ht (DefOK.eq rfl))
 | .region id ops draw,kn,kx,kr,tm,H,h=>λa W sn ι Q hg hR ht hQ=>by
  cases draw with
  |true =>
   replace h:Zgu P gl orc cw ops.toList tm H kn:=h
   obtain⟨tm',H',h1,h⟩:=ZdD P gl orc cw hcw h
   exact ZcC hm hn hO hg hR ht h1 (λa' W' sn' ι' s1 t1 d1=>hQ .normal tm' H' a' W' sn' ι' h (s1.q hR) t1 (DefOK.eq d1)) id
  |false =>
   replace h:Zky P gl orc cw ops.toList ops.toList tm H kn:=h
   obtain⟨tm',H',h1,h⟩:=Z9s P gl orc cw hcw h
   exact wpIn_region_list (ZeH hn hO ops _ _ _ _ _ _ _ _ _ h1 hg hR ht λa' W' sn' ι' s1 t1 d1=>hQ .normal tm' H' a' W' sn' ι' h (s1.q hR) t1 (DefOK.eq d1))
 | .seq c d,kn,kx,kr,tm,H,h=>by
  replace h:Z21 P gl orc cw ⟨Z6A k,rf⟩ c (λtm H=>Z21 P gl orc cw ⟨Z6A k,rf⟩ d kn kx kr tm H) kx kr tm H:=h
  refine Tri.seq ((Z1s hrf hm hn hO hcw c h).mono λx tm1 H1 hx=>?_)
  cases x with
  |normal=>exact Z1s hrf hm hn hO hcw d hx
  |exit id=>exact hx
  |ret=>exact hx
 | .cond e c d,kn,kx,kr,tm,H,h=>λa W sn ι Q hg hR ht hQ=>by
  replace h:(onO (Z1E gl tm e) λv=>match v with
   | .bool t=>(t=true->Z21 P gl orc cw ⟨Z6A k,rf⟩ c kn kx kr tm H)/\(t=false->Z21 P gl orc cw ⟨Z6A k,rf⟩ d kn kx kr tm H)
   |_=>False):=h
  obtain⟨v,hv,h⟩:=Z01 h
  split at h
  · rename_i t
    have he:=(Z3C hg ht _ _ hv).bool
    cases t with
    |true=>exact wpIn_cond_true he (Z1s hrf hm hn hO hcw c (h.1 rfl) a W sn ι Q hg hR ht hQ)
    |false=>exact wpIn_cond_false he (Z1s hrf hm hn hO hcw d (h.2 rfl) a W sn ι Q hg hR ht hQ)
  ·exact h.elim
 | .block id b,kn,kx,kr,tm,H,h=>λa W sn ι Q hg hR ht hQ=>by
  replace h:Z21 P gl orc cw ⟨Z6A k,rf⟩ b kn (λid' tm H=>match Y00 id' id with|true=>kn tm H|false=>kx id' tm H) kr tm H:=h
  refine wpIn_block (Z1s hrf hm hn hO hcw b h a W sn ι _ hg hR ht λx tm1 H1 a1 W1 sn1 ι1 hx s1 t1 d1=>?_)
  cases x with
  |normal=>exact hQ .normal tm1 H1 _ _ _ _ hx s1 t1 d1
  |ret=>exact hQ .ret tm1 H1 _ _ _ _ hx s1 t1 d1
  |exit id' =>
   show (if id'=id then Q .normal a1 W1 else Q (.exit id') a1 W1)
   have hx:(match Y00 id' id with|true=>kn tm1 H1|false=>kx id' tm1 H1):=hx
   by_cases e:id'=id
   · rw[if_pos e]
     subst e
     have:Y00 id' id'=true:=by simp
     rw[this]at hx
     exact hQ .normal tm1 H1 _ _ _ _ hx s1 t1 d1
   · rw[if_neg e]
     have:Y00 id' id=false:=by cases hb:Y00 id' id with|false=>rfl|true=>exact (e (Y05 hb)).elim
     rw[this]at hx
     exact hQ (.exit id') tm1 H1 _ _ _ _ hx s1 t1 d1
 | .loop b,kn,kx,kr,tm,H,h=>by
  replace h:Z6A k (λkn tm H=>Z21 P gl orc cw ⟨Z6A k,rf⟩ b kn kx kr tm H) tm H:=h
  unfold Z6A at h
  obtain⟨S,I,L,B,μ,⟨s,h0,hf⟩,h⟩:=h
  refine Tri.forget hf.fg (Tri.loop (I:=I) (T:=λs=>Z5N (λn=>Z1N n (L s)) tm) (B:=B) (μ:=μ) (λs hI=>?_) h0)
  have h:=h s hI
  rw[Z0m,Z07]at h
  refine (Z1s hrf hm hn hO hcw b h).mono λx tm' H' hx=>?_
  cases x with
  |normal =>
   obtain⟨s',k1,k2,k3⟩:=hx
   exact⟨s',k1,k2,k3.fg⟩
  |exit id=>exact hx
  |ret=>exact hx
 | .exit id,kn,kx,kr,tm,H,h=>λa W sn ι Q hg hR ht hQ=>by
  exact wpIn_exit (hQ (.exit id) tm H a W sn ι h (Stq.refl hR) ht (DefOK.eq rfl))
 | .ret,kn,kx,kr,tm,H,h=>λa W sn ι Q hg hR ht hQ=>by
  exact wpIn_ret (hQ .ret tm H a W sn ι h (Stq.refl hR) ht (DefOK.eq rfl))
 | .rangeFunc f ps asg bd,kn,kx,kr,tm,H,h=>by
  replace h:(onO (Z1E gl tm f) λv=>rf v ps asg bd kn kx kr tm H):=h
  obtain⟨v,hv,h⟩:=Z01 h
  exact hrf f v ps asg bd kn kx kr tm H hv h
 | .scope ..,kn,kx,kr,tm,H,h=>(h:False).elim
 | .label ..,kn,kx,kr,tm,H,h=>(h:False).elim
 | .goto ..,kn,kx,kr,tm,H,h=>(h:False).elim
 | .refuse ..,kn,kx,kr,tm,H,h=>(h:False).elim
theorem ZhG(hm:P.follows .mixedOrders=true)(hn:NoNum P)(hO:OrcSound P gl orc){cw:CW}(hcw:ZbN P orc cw)(c:Code){kn:Tr->Z00->Prop}{kx:Nat->Tr->Z00->Prop}{kr:Tr->Z00->Prop}{tm:Tr}{H:Z00}
 (h:Z21 P gl orc cw (Zf1 k) c kn kx kr tm H):Tri P gl rd k c tm H (Znu kn kx kr):=Z1s (λ_ _ _ _ _ _ _ _ _ _ _ h=>h.elim) hm hn hO hcw c h
theorem Z31 {fuel : Nat} {cw : CW} (hcw : ZbN P orc cw) : ∀ (c : Code) {kn : Tr -> Z00 -> Prop} {kx : Nat -> Tr -> Z00 -> Prop} {kr : Tr -> Z00 -> Prop} {tm : Tr} {H : Z00},
  Z21 P gl orc cw Z5b c kn kx kr tm H->∃x tm' H',Z0A P gl orc fuel c tm H=some (x,tm',H')/\Znu kn kx kr x tm' H'
 | .skip,kn,kx,kr,tm,H,h=>⟨.normal,tm,H,rfl,h⟩
 | .region id ops draw,kn,kx,kr,tm,H,h=>by
  cases draw with
  |true =>
   replace h:Zgu P gl orc cw ops.toList tm H kn:=h
   obtain⟨tm',H',h1,h⟩:=ZdD P gl orc cw hcw h
   exact⟨.normal,tm',H',by simp only[Z0A,if_true,h1],h⟩
  |false =>
   replace h:Zky P gl orc cw ops.toList ops.toList tm H kn:=h
   obtain⟨tm',H',h1,h⟩:=Z9s P gl orc cw hcw h
   exact⟨.normal,tm',H',by simp only[Z0A,Y03,if_false,h1],h⟩
 | .seq c d,kn,kx,kr,tm,H,h=>by
  replace h:Z21 P gl orc cw Z5b c (λtm H=>Z21 P gl orc cw Z5b d kn kx kr tm H) kx kr tm H:=h
  obtain⟨x,tm1,H1,h1,h⟩:=Z31 (fuel:=fuel) hcw c h
  cases x with
  |normal =>
   obtain⟨x2,tm2,H2,h2,h⟩:=Z31 (fuel:=fuel) hcw d (show Z21 P gl orc cw Z5b d kn kx kr tm1 H1 from h)
   exact⟨x2,tm2,H2,by simp only[Z0A,h1,h2],h⟩
  |exit id=>exact⟨.exit id,tm1,H1,by simp only[Z0A,h1],h⟩
  |ret=>exact⟨.ret,tm1,H1,by simp only[Z0A,h1],h⟩
 | .cond e c d,kn,kx,kr,tm,H,h=>by
  replace h:(onO (Z1E gl tm e) λv=>match v with
   | .bool t=>(t=true->Z21 P gl orc cw Z5b c kn kx kr tm H)/\(t=false->Z21 P gl orc cw Z5b d kn kx kr tm H)
   |_=>False):=h
  obtain⟨v,hv,h⟩:=Z01 h
  split at h
  · rename_i t
    cases t with
    |true=>obtain⟨x,tm1,H1,h1,h⟩:=Z31 (fuel:=fuel) hcw c (h.1 rfl);exact⟨x,tm1,H1,by simp only[Z0A,hv,h1],h⟩
    |false=>obtain⟨x,tm1,H1,h1,h⟩:=Z31 (fuel:=fuel) hcw d (h.2 rfl);exact⟨x,tm1,H1,by simp only[Z0A,hv,h1],h⟩
  ·exact h.elim
 | .block id b,kn,kx,kr,tm,H,h=>by
  replace h:Z21 P gl orc cw Z5b b kn (λid' tm H=>match Y00 id' id with|true=>kn tm H|false=>kx id' tm H) kr tm H:=h
  obtain⟨x,tm1,H1,h1,h⟩:=Z31 (fuel:=fuel) hcw b h
  cases x with
  |normal=>exact⟨.normal,tm1,H1,by simp only[Z0A,h1],h⟩
  |ret=>exact⟨.ret,tm1,H1,by simp only[Z0A,h1],h⟩
  |exit id' =>
   have h:(match Y00 id' id with|true=>kn tm1 H1|false=>kx id' tm1 H1):=h
   cases hb:Y00 id' id with
   |true=>rw[hb]at h;exact⟨.normal,tm1,H1,by simp only[Z0A,h1,hb,if_true],h⟩
   |false=>rw[hb]at h;exact⟨.exit id',tm1,H1,by simp only[Z0A,h1,hb,Y03,if_false],h⟩
 | .loop b,kn,kx,kr,tm,H,h=>(h:False).elim
 | .exit id,kn,kx,kr,tm,H,h=>⟨.exit id,tm,H,rfl,h⟩
 | .ret,kn,kx,kr,tm,H,h=>⟨.ret,tm,H,rfl,h⟩
 | .rangeFunc f ps asg bd,kn,kx,kr,tm,H,h=>by
  replace h:(onO (Z1E gl tm f) λ_=>False):=h
  obtain⟨_,_,h⟩:=Z01 h
  exact h.elim
 | .scope ..,kn,kx,kr,tm,H,h=>(h:False).elim
 | .label ..,kn,kx,kr,tm,H,h=>(h:False).elim
 | .goto ..,kn,kx,kr,tm,H,h=>(h:False).elim
 | .refuse ..,kn,kx,kr,tm,H,h=>(h:False).elim
theorem Z6n {fn : Func} {tmps : Array Value} {Q : Ending -> World -> Prop} : ∀ (ds : List Nat) (W : World), ds.Nodup -> (∀ D ∈ ds, W.heap[D]? = some (.deferred (some []))) ->
  (∀W',Shut ds W W'->∃v,(results fn tmps).run P W' = .ok v W'/\Q (.returned v) W')->LeavesInM (Fq none) 0 P fn tmps Q (ds.map Zlz) .returning W
 |[],W,hn,hd,h=>by
  obtain⟨v,h1,h2⟩:=h W ⟨λ_ _=>rfl,rfl,rfl,rfl,rfl⟩
  exact⟨v,h1,h2⟩
 |D::ds,W,hn,hd,h=>by
  have hn':=List.nodup_cons.1 hn
  refine⟨by simp,.inl ⟨D,W.putObj D (.deferred none),rfl,run_takeDeferred (hd D (by simp)),?_⟩⟩
  have hlt:D<W.heap.size:=(Y0k.1 (hd D (by simp))).1
  refine Z6n ds _ hn'.2 (λE hE=>?_) λW' hs=>h W' ?_
  · rw[World.putObj_heap_other (by rintro rfl;exact hn'.1 hE)]
    exact hd E (by simp[hE])
  · refine⟨λc hc=>?_,by rw[hs.size];simp,hs.os,hs.tape,hs.output⟩
    simp only[Y06,not_or]at hc
    rw[hs.other c hc.2,World.putObj_heap_other hc.1]
theorem Z48 {f : Nat} {fn : Func} {c : Code} {args : List AV} {cargs : List Value} {H0 : Z00} {W : World} {sn : Z0h} {ι : Z0g} {Φ : AEx -> Tr -> Z00 -> Prop} {Q : Ending -> World -> Prop} (hf : P.funcs[f]? = some fn) (hc : fn.body = some c)
  (h:Tri P gl none k c (tmk (Z9i args fn.ntmps args.length) (Z8t 20 fn.ntmps)) H0 Φ) (hg:GlOK gl sn) (hR:R sn ι H0 W) (ha:LR sn ι args cargs) (hx:∀id tm H,¬Φ (.exit id) tm H)
  (hq:∀x tm1 H1 a1 W1 sn1 ι1,Φ x tm1 H1->Stq k sn ι H0 W sn1 ι1 H1 W1->TRel sn1 ι1 tm1 a1->∃v,(results fn a1.tmps).run P W1 = .ok v W1/\Q (.returned v) W1):Calls P f cargs.toArray W Q:=by
 refine Zbn.1 (callsIn_of_wp_marks (F:=Fq none) (n:=0) hf hc trivial (h _ W sn ι _ hg hR (Z8r ha _ _ _) λx tm1 H1 a1 W1 sn1 ι1 hx1 s1 t1 d1=>?_))
 have key:LeavesInM (Fq none) 0 P fn a1.tmps Q a1.defers .returning W1:=by
  obtain⟨ds,e,n1,hd⟩:=d1
  have e:a1.defers=ds.map Zlz:=by rw[e];simp
  rw[e]
  exact Z6n ds W1 n1 (λD hD=>(hd D hD).2.1) λW2 hs=>hq x tm1 H1 a1 W2 sn1 ι1 hx1 (s1.shut hd hs) t1
 cases x with
 |normal=>exact key
 |ret=>exact key
 |exit id=>exact (hx id tm1 H1 hx1).elim
end code
end Go.Abs
end
section
namespace Go.Abs
open Go.RowKit
def frzL(f:AV->Option AV):List AV->Option (List AV)
 |[]=>some []
 |c::l=>match f c,frzL f l with|some x,some y=>some (x::y)|_,_=>none
def frz(H:Z00):Nat->AV->Option AV
 |0,_=>none
 |n+1,u=>match u with
  | .ptr b off=>match H[b]? with
   |some o=>match o.alive,o.body with
    |true,.cells cs _=>match frzL (frz H n) (cs.drop off) with|some l=>some (.rp l)|none=>none
    |_,_=>none
   |none=>none
  | .slice b off len _ z=>match len with
   |0=>some (.rs 0 z [])
   |_+1=>match H[b]? with
    |some o=>match o.alive,o.body with
     |true,.cells cs _=>match tk (len*z) (cs.drop off) with
      |some cs=>match frzL (frz H n) cs with|some l=>some (.rs len z l)|none=>none
      |none=>none
     |_,_=>none
    |none=>none
  | .agg cs=>match frzL (frz H n) cs with|some l=>some (.agg l)|none=>none
  | .tuple cs=>match frzL (frz H n) cs with|some l=>some (.tuple l)|none=>none
  | .iface t v=>match frz H n v with|some x=>some (.iface t x)|none=>none
  | .func fn f c=>match frzL (frz H n) f,frzL (frz H n) c with|some f,some c=>some (.func fn f c)|_,_=>none
  | .map _=>none
  |u=>some u
section frz
variable {sn:Z0h} {ι : Z0g} {H:Z00} {W:World} {g:Nat}
theorem Z0Q{f:AV->Option AV}{sn':Z0h}(hf:∀u r v,f u=some r->VR sn ι u v->VR sn' noI r v):∀{l l':List AV}{vs:List Value},frzL f l=some l'->LR sn ι l vs->LR sn' noI l' vs
 |[],l',vs,h,e=>by simp[frzL]at h;subst h;simpa[LR]using e
 |c::l,l',vs,h,e=>by
  simp only[frzL]at h
  split at h<;>simp at h
  rename_i x y hx hy
  subst h
  simp only[LR]at e⊢
  obtain⟨d,ds,rfl,h1,h2⟩:=e
  exact⟨d,ds,rfl,hf _ _ _ hx h1,Z0Q hf hy h2⟩
theorem Z5f{f:AV->Option AV}:∀{l l':List AV},frzL f l=some l'->l'.length=l.length/\∀(i:Nat)(x:AV),l'[i]? = some x->∃c,l[i]? = some c/\f c=some x
 |[],l',h=>by simp[frzL]at h;subst h;simp
 |c::l,l',h=>by
  simp only[frzL]at h
  split at h<;>simp at h
  rename_i x y hx hy
  subst h
  obtain⟨h1,h2⟩:=Z5f hy
  refine⟨by simp[h1],λi z hz=>?_⟩
  cases i with
  |zero=>simp at hz;subst hz;exact⟨c,rfl,hx⟩
  |succ i=>simpa using h2 i z (by simpa using hz)
theorem Z2o{sn:Z0h}:∀{us:List AV}{b o:Nat},(∀(i:Nat)(u:AV),us[i]? = some u->∃v,sn ⟨b,o+i,none⟩=some v/\VR sn noI u v)->MR sn us b o
 |[],b,o,h=>by simp[MR]
 |u::us,b,o,h=>by
  simp only[MR]
  refine⟨by simpa using h 0 u rfl,Z2o λi x hx=>?_⟩
  have:=h (i+1) x (by simpa using hx)
  rwa [show o+(i+1)=o+1+i from by omega]at this
theorem Z7I (hR : R sn ι H W) (hfr : ∀ (b : Nat) (o : AObj) p, H[b]? = some o -> o.alive = true -> ι b = some p -> g <= p.blk) :
  ∀(n:Nat)(u r:AV)(v:Value),frz H n u=some r->VR sn ι u v->VR (snx sn g W) noI r v:=by
 have hle:Le sn (snx sn g W) noI noI:=⟨λa v hv=>by
  unfold snx
  split
  ·exact hv
  ·exact (hR.snap a v hv).2.1,λ_ _ h=>h⟩
 intro n
 induction n with
 |zero=>intro u r v h;simp[frz]at h
 |succ n ih =>
  have cells:∀{b:Nat}{o:AObj}{p:Place}{cs l:List AV}{ty:TypeId}{off:Nat},H[b]? = some o->o.alive=true->o.body = .cells cs ty -> ι b=some p->frzL (frz H n) (cs.drop off)=some l->MR (snx sn g W) l p.blk (p.sh+off):=by
   intro b o p cs l ty off ho ha hb hp hl
   obtain⟨_,h2⟩:=Z5f hl
   have hor:=hR.obj b o p ho ha hp
   rw[hb]at hor
   simp only[OR]at hor
   obtain⟨arr,k1,k2,k3,k4⟩:=hor
   refine Z2o λi x hx=>?_
   obtain⟨c,hc,hcx⟩:=h2 i x hx
   rw[List.getElem?_drop]at hc
   obtain⟨v,e1,e2⟩:=k4 (off+i) c hc
   refine⟨v,?_,ih c x v hcx e2⟩
   have hge:=hfr b o p ho ha hp
   unfold snx
   rw[if_neg (by show ¬p.blk<g;omega),Z16 k1]
   rw[<- e1];congr 1;omega
  intro u r v h hv
  unfold frz at h
  split at h
  · rename_i b off
    split at h<;>try (simp at h;done)
    rename_i o ho
    split at h<;>try (simp at h;done)
    rename_i cs ty ha hb
    split at h<;>simp at h
    rename_i l hl
    subst h
    obtain⟨p,hp,rfl⟩:=hv.ptr
    simp only[VR]
    exact⟨_,_,rfl,cells ho ha hb hp hl⟩
  · rename_i b off len cap z
    obtain⟨p,a,cap',hp,rfl,h1,h2,h3⟩:=hv.slice
    split at h
    · simp at h;subst h
      simp only[VR]
      exact .inr ⟨a,cap',rfl,by omega,by simp,by simp[MR],λh=>absurd rfl h⟩
    · rename_i len
      split at h<;>try (simp at h;done)
      rename_i o ho
      split at h<;>try (simp at h;done)
      rename_i cs ty ha hb
      split at h<;>try (simp at h;done)
      rename_i cs' hcs
      split at h<;>simp at h
      rename_i l hl
      subst h
      obtain⟨ha',_⟩:=h3 (by omega)
      subst ha'
      obtain⟨e1,rfl⟩:=Z3M hcs
      obtain⟨f1,f2⟩:=Z5f hl
      simp only[VR]
      refine .inr ⟨_,cap',rfl,by omega,?_,?_,λ_=>rfl⟩
      ·rw[f1,List.length_take];exact Nat.min_eq_left e1
      · have hor:=hR.obj b o p ho ha hp
        rw[hb]at hor
        simp only[OR]at hor
        obtain⟨arr,k1,k2,k3,k4⟩:=hor
        refine Z2o λi x hx=>?_
        obtain⟨c,hc,hcx⟩:=f2 i x hx
        rw[List.getElem?_take]at hc
        split at hc<;>try (simp at hc;done)
        rw[List.getElem?_drop]at hc
        obtain⟨v,g1,g2⟩:=k4 (off+i) c hc
        refine⟨v,?_,ih c x v hcx g2⟩
        have hge:=hfr b o p ho ha hp
        unfold snx
        rw[if_neg (by show ¬p.blk<g;omega),Z16 k1]
        rw[<- g1];congr 1;simp only;omega
  · split at h<;>simp at h
    rename_i l hl;subst h
    obtain⟨d,rfl,h1⟩:=hv.agg
    exact Z4t (Z0Q ih hl h1)
  · split at h<;>simp at h
    rename_i l hl;subst h
    obtain⟨d,rfl,h1⟩:=hv.tuple
    exact Z4U (Z0Q ih hl h1)
  · split at h<;>simp at h
    rename_i x hx;subst h
    obtain⟨y,rfl,h1⟩:=hv.iface
    simp only[VR];exact⟨y,rfl,ih _ _ _ hx h1⟩
  · split at h<;>simp at h
    rename_i f c hf hc;subst h
    obtain⟨x,y,rfl,h1,h2⟩:=hv.func
    simp only[VR];exact⟨x,y,rfl,Z0Q ih hf h1,Z0Q ih hc h2⟩
  ·simp at h
  · rename_i e1 e2 e3 e4 e5 e6 e7
    simp at h;subst h
    cases u with
    |ptr b o=>exact (e1 _ _ rfl).elim
    |slice b o l c z=>exact (e2 _ _ _ _ _ rfl).elim
    |agg cs=>exact (e3 _ rfl).elim
    |tuple cs=>exact (e4 _ rfl).elim
    |iface t v=>exact (e5 _ _ rfl).elim
    |func fn f c=>exact (e6 _ _ _ rfl).elim
    |map b=>exact (e7 _ rfl).elim
    |_=>exact Z0V (ι:=noI) hle _ _ (Z1h (ι:=ι) _ [] _ (λb hb=>by simp[refs]at hb) hv)
end frz
def Z0k(P:Program)(gl:Glob)(f:Nat)(args:List AV)(r:AV):Prop :=
 ∀(sn:Z0h)(W:World)(cargs:List Value),GlOK gl sn->R sn noI [] W->LR sn noI args cargs ->
  Calls P f cargs.toArray W λe W'=>∃v,e = .returned v/\Ext W W'/\VR (snx sn W.heap.size W') noI r v
theorem R.none{sn:Z0h}{ι : Z0g}{H:Z00}{W:World}(h:R sn ι H W):R sn noI [] W :=
 ⟨fun b => ⟨fun hb => by simp at hb, fun ⟨p, hp⟩ => by simp [noI] at hp⟩, fun b p hp => by simp [noI] at hp, fun b o p hb => by simp at hb, fun b b' o o' p p' hb => by simp at hb,
   λa v hv=>⟨(h.snap a v hv).1,(h.snap a v hv).2.1,λb o p hb=>by simp at hb⟩,λb o p hb=>by simp at hb⟩
theorem Stq.ext{k:Nat}{sn sn':Z0h}{ι':Z0g}{H':Z00}{W W':World}(h:Stq k sn noI [] W sn' ι' H' W'):Ext W W' :=
 ⟨λc hc=>h.frame c hc λb o p hb=>by simp at hb,h.size,h.os,h.tape,h.output⟩
def Zjs(F:Nat->List AV->Option AV):Orc:=λf args H=>match F f args with|some r=>some (r,H)|none=>none
theorem Z5G{P:Program}{gl:Glob}{F:Nat->List AV->Option AV}(h:∀f args r,F f args=some r->refsL args []=[]/\Z0k P gl f args r):OrcSound P gl (Zjs F):=by
 intro f args H r H' hf sn ι W cargs hg hR ha
 unfold Zjs at hf
 split at hf<;>simp at hf
 rename_i r' hr
 obtain⟨rfl,rfl⟩:=hf
 obtain⟨h1,h2⟩:=h f args r' hr
 refine .inl ((h2 sn W cargs hg hR.none (LR_refs args [] _ (λb hb=>by rw[h1]at hb;cases hb) ha)).mono ?_)
 rintro e W' ⟨v,rfl,hx,hv⟩
 exact⟨v,_,ι,rfl,Zho hv,Stp.snap hR hx⟩
def Z29(o1 o2:Orc):Orc:=λf args H=>match o1 f args H with|some r=>some r|none=>o2 f args H
theorem Z12{P:Program}{gl:Glob}{o1 o2:Orc}(h1:OrcSound P gl o1)(h2:OrcSound P gl o2):OrcSound P gl (Z29 o1 o2):=by
 intro f args H r H' hf
 unfold Z29 at hf
 split at hf
 · rename_i x hx
   simp at hf;subst hf
   exact h1 f args H r H' hx
 ·exact h2 f args H r H' hf
def Z0J:List AV->AV
 |[v]=>v
 |vs=>.tuple vs
def ZeX(P:Program)(gl:Glob)(orc:Orc)(isC:Nat->Bool):Nat->Orc
 |0=>orc
 |n+1=>λf args H=>match isC f || !(Z0b P f) with|true=>orc f args H|false=>Za8 P gl (ZeX P gl orc isC n) 0 f args H
theorem Z2g{P:Program}{gl:Glob}{orc:Orc}{isC:Nat->Bool}(hm:P.follows .mixedOrders=true)(hn:NoNum P)(hO:OrcSound P gl orc):∀n,OrcSound P gl (ZeX P gl orc isC n)
 |0=>hO
 |n+1=>by
  intro f args H r H' hf
  simp only[ZeX]at hf
  split at hf
  ·exact hO f args H r H' hf
  ·exact Z89 (fuel:=0) hm hn (Z2g hm hn hO n) f args H r H' hf
noncomputable def Zkc(P:Program)(gl:Glob)(orc:Orc)(isC:Nat->Bool):Nat->CW :=
 Nat.rec (motive:=λ_=>CW) (cw0 P orc) (λn ih g args H k=>match isC g || !(Z0b P g) with
  |true=>∃y,Z08 P orc H g args=some y/\Z6V y.1 λr=>frcHW y.2 λH'=>k r H'
  |false=>onO P.funcs[g]? λfn=>onO fn.body λc=>Z1p (tmk (Z9i args fn.ntmps args.length) (Z8t 20 fn.ntmps)) λtm =>
   Z21 P gl (ZeX P gl orc isC n) ih Z5b c (λtm H=>onO (Z2w P tm H fn.results.toList) λvs=>Z6V (Z0J vs) λr=>k r H) (λ_ _ _=>False) (λtm H=>onO (Z2w P tm H fn.results.toList) λvs=>Z6V (Z0J vs) λr=>k r H) tm H)
def Zga(P:Program)(l:List ResultVar)(Φ : AV->Prop)(tm:Tr)(H:Z00):Prop:=onO (Z2w P tm H l) λvs=>∃r,frz H 30 (Z0J vs)=some r /\ Φ r
theorem Z4e{P:Program}{gl:Glob}{orc:Orc}{isC:Nat->Bool}:∀n,ZbN P (ZeX P gl orc isC n) (Zkc P gl orc isC n)
 |0=>Z5k P orc
 |n+1=>by
  intro g args H k h
  replace h:(match isC g || !(Z0b P g) with
   |true=>∃y,Z08 P orc H g args=some y/\Z6V y.1 λr=>frcHW y.2 λH'=>k r H'
   |false=>onO P.funcs[g]? λfn=>onO fn.body λc=>Z1p (tmk (Z9i args fn.ntmps args.length) (Z8t 20 fn.ntmps)) λtm =>
    Z21 P gl (ZeX P gl orc isC n) (Zkc P gl orc isC n) Z5b c (λtm H=>onO (Z2w P tm H fn.results.toList) λvs=>Z6V (Z0J vs) λr=>k r H) (λ_ _ _=>False) (λtm H=>onO (Z2w P tm H fn.results.toList) λvs=>Z6V (Z0J vs) λr=>k r H) tm H):=h
  split at h
  · obtain⟨y,h1,h2⟩:=h
    rename_i hc
    rw[Z25,Z07]at h2
    refine⟨y.1,y.2,?_,h2⟩
    have ho:ZeX P gl orc isC (n+1) g=orc g:=by funext args H;simp only[ZeX,hc]
    have hy:yl (ZeX P gl orc isC (n+1)) H g args=yl orc H g args:=by unfold yl;simp only[ho]
    unfold Z08 at h1⊢
    rw[ho,hy];exact h1
  · rename_i hb
    have hi:isC g=false:=by cases hq:isC g with|false=>rfl|true=>rw[hq]at hb;simp at hb
    have hb':Z0b P g=true:=by cases hq:Z0b P g with|true=>rfl|false=>rw[hq]at hb;simp at hb
    obtain⟨fn,hfn,h⟩:=Z01 h
    obtain⟨c,hc,h⟩:=Z01 h
    rw[Z0m]at h
    unfold Z08
    rw[if_pos hb']
    simp only[ZeX,hi,hb',Bool.not_true,Bool.or_false]
    obtain⟨x,tm1,H1,h1,h⟩:=Z31 (fuel:=0) (Z4e n) c h
    have fin:∀{tm1 H1},(onO (Z2w P tm1 H1 fn.results.toList) λvs=>Z6V (Z0J vs) λr=>k r H1)->∃us,Z2w P tm1 H1 fn.results.toList=some us/\k (Z0J us) H1:=λh=>by
     obtain⟨us,e1,e2⟩:=Z01 h
     rw[Z25]at e2
     exact⟨us,e1,e2⟩
    have done:∀{us:List AV},Z2w P tm1 H1 fn.results.toList=some us->(x = .normal\/x = .ret)->Za8 P gl (ZeX P gl orc isC n) 0 g args H=some (Z0J us,H1):=by
     intro us e hx
     unfold Za8
     simp only[hfn,hc,frcVL_eq,Z7M,h1]
     rcases hx with rfl|rfl
     all_goals
      simp only[e]
      match us with
      |[]=>rfl
      |[u]=>rfl
      |u::u'::l=>rfl
    cases x with
    |normal=>obtain⟨us,e1,e2⟩:=fin h;exact⟨_,_,done e1 (.inl rfl),e2⟩
    |exit id=>exact (h:False).elim
    |ret=>obtain⟨us,e1,e2⟩:=fin h;exact⟨_,_,done e1 (.inr rfl),e2⟩
theorem fn_valXR {rf : AV -> Array Tmp -> Code -> Code -> KN -> KX -> KN -> Tr -> Z00 -> Prop} {Φ : AV -> Prop} {P : Program} {gl : Glob} {orc : Orc} (hrf : Zog P gl none 0 rf) (hm : P.follows .mixedOrders = true) (hn : NoNum P) (hO : OrcSound P gl orc) {f : Nat} {fn : Func} {c : Code} {args : List AV} {r : AV} (hΦ : ∀ r', Φ r' -> ∀ sn v, VR sn noI r' v -> VR sn noI r v)
  (hf:P.funcs[f]? = some fn) (hc:fn.body=some c)
  {cw:CW} (hcw:ZbN P orc cw)
  (h:Z1p (tmk (Z9i args fn.ntmps args.length) (Z8t 20 fn.ntmps)) λtm=>Z21 P gl orc cw ⟨Z6A 0,rf⟩ c (Zga P fn.results.toList Φ) (λ_ _ _=>False) (Zga P fn.results.toList Φ) tm []):Z0k P gl f args r:=by
 intro sn W cargs hg hR ha
 rw[Z0m]at h
 refine Z48 hf hc (Z1s (rd:=none) hrf hm hn hO hcw c h) hg hR ha (λ_ _ _ h=>h) λx tm1 H1 a1 W1 sn1 ι1 hx s1 t1=>?_
 have key:Zga P fn.results.toList Φ tm1 H1->∃v,(results fn a1.tmps).run P W1 = .ok v W1/\VR (snx sn W.heap.size W1) noI r v:=by
  intro h
  obtain⟨us,h1,r',h2,h3⟩:=Z01 h
  obtain⟨vs,h4,h5⟩:=Z1g s1.rel t1 _ _ h1
  have hle:Le (snx sn1 W.heap.size W1) (snx sn W.heap.size W1) noI noI:=⟨λa v hv=>by
   unfold snx at hv⊢
   split at hv
   · rename_i hlt
     rw[if_pos hlt]
     rcases s1.sfresh a v hv with h|h|⟨b0,o0,p0,hb,_⟩
     ·exact h
     ·omega
     ·simp at hb
   · rename_i hlt
     rw[if_neg hlt];exact hv,λ_ _ h=>h⟩
  have hfr:∀(b:Nat)(o:AObj) p,H1[b]? = some o->o.alive=true -> ι1 b=some p->W.heap.size<=p.blk:=by
   intro b o p hb ha hp
   rcases s1.fresh b o p hb ha hp with h|⟨b0,o0,p0,hb,_⟩
   ·exact h
   ·simp at hb
  refine⟨_,Z1W h5,hΦ _ h3 _ _ (Z0V hle _ _ (Z7I s1.rel hfr 30 _ _ _ h2 ?_))⟩
  clear h1 h2 h3
  match us,h4 with
  |[],h4=>simp only[LR]at h4;subst h4;simp[Z0J,VR,LR]
  |[u],h4 =>
   simp only[LR]at h4
   obtain⟨d,ds,rfl,hd,rfl⟩:=h4
   simpa[Z0J]using hd
  |u::u'::l,h4 =>
   have hl:=h4.length
   simp only[Y0c]at hl
   have:vs.toArray.size≠1:=by simp[hl]
   rw[dif_neg this]
   simp only[Z0J,VR]
   exact⟨_,rfl,h4⟩
 cases x with
 |normal =>
  obtain⟨v,k1,k2⟩:=key hx
  exact⟨v,k1,v,rfl,s1.ext,k2⟩
 |exit id=>exact hx.elim
 |ret =>
  obtain⟨v,k1,k2⟩:=key hx
  exact⟨v,k1,v,rfl,s1.ext,k2⟩
theorem fn_valX {Φ : AV -> Prop} {P : Program} {gl : Glob} {orc : Orc} (hm : P.follows .mixedOrders = true) (hn : NoNum P) (hO : OrcSound P gl orc) {f : Nat} {fn : Func} {c : Code} {args : List AV} {r : AV} (hΦ : ∀ r', Φ r' -> ∀ sn v, VR sn noI r' v -> VR sn noI r v)
  (hf:P.funcs[f]? = some fn) (hc:fn.body=some c)
  {cw:CW} (hcw:ZbN P orc cw)
  (h:Z1p (tmk (Z9i args fn.ntmps args.length) (Z8t 20 fn.ntmps)) λtm=>Z21 P gl orc cw Zf2 c (Zga P fn.results.toList Φ) (λ_ _ _=>False) (Zga P fn.results.toList Φ) tm []):Z0k P gl f args r :=
 fn_valXR (λ_ _ _ _ _ _ _ _ _ _ _ h=>h.elim) hm hn hO hΦ hf hc hcw h
theorem Zg6 {P : Program} {gl : Glob} {orc : Orc} (hm : P.follows .mixedOrders = true) (hn : NoNum P) (hO : OrcSound P gl orc) {f : Nat} {fn : Func} {c : Code} {args : List AV} {r : AV}
  (hf:P.funcs[f]? = some fn) (hc:fn.body=some c)
  {cw:CW} (hcw:ZbN P orc cw)
  (h:Z1p (tmk (Z9i args fn.ntmps args.length) (Z8t 20 fn.ntmps)) λtm=>Z21 P gl orc cw Zf2 c (Zga P fn.results.toList (· = r)) (λ_ _ _=>False) (Zga P fn.results.toList (· = r)) tm []):Z0k P gl f args r :=
 fn_valX (Φ:=(· = r)) hm hn hO (λr' e sn v h=>e ▸ h) hf hc hcw h
theorem Z0C {P : Program} {gl : Glob} {orc : Orc} (hm : P.follows .mixedOrders = true) (hn : NoNum P) (hO : OrcSound P gl orc) {f : Nat} {fn : Func} {c : Code} {args : List AV} {r : AV} (hf : P.funcs[f]? = some fn) (hc : fn.body = some c)
  (h:Z1p (tmk (Z9i args fn.ntmps args.length) (Z8t 20 fn.ntmps)) λtm=>Z21 P gl orc (cw0 P orc) Zf2 c (Zga P fn.results.toList (· = r)) (λ_ _ _=>False) (Zga P fn.results.toList (· = r)) tm []):Z0k P gl f args r :=
 Zg6 hm hn hO hf hc (Z5k P orc) h
theorem Zli {P : Program} {gl : Glob} {orc : Orc} (isC : Nat -> Bool) (n : Nat) (hm : P.follows .mixedOrders = true) (hn : NoNum P) (hO : OrcSound P gl orc) {f : Nat} {fn : Func} {c : Code} {args : List AV} {r : AV} (hf : P.funcs[f]? = some fn) (hc : fn.body = some c)
  (h:Z1p (tmk (Z9i args fn.ntmps args.length) (Z8t 20 fn.ntmps)) λtm=>Z21 P gl (ZeX P gl orc isC n) (Zkc P gl orc isC n) Zf2 c (Zga P fn.results.toList (· = r)) (λ_ _ _=>False) (Zga P fn.results.toList (· = r)) tm []):Z0k P gl f args r :=
 Zg6 hm hn (Z2g hm hn hO n) hf hc (Z4e n) h
end Go.Abs
end
section
namespace Go.Abs
open Go.RowKit
mutual
def plain:AV->Bool
 | .bool _=>true
 | .int _ _=>true
 | .str _=>true
 | .nptr=>true
 | .nslice=>true
 | .nmap=>true
 | .nfunc=>true
 | .niface=>true
 | .agg cs=>plainL cs
 | .tuple cs=>plainL cs
 | .iface _ u=>plain u
 |_=>false
def plainL:List AV->Bool
 |[]=>true
 |c::l=>plain c&&plainL l
end
mutual
theorem Z6L{sn sn':Z0h}{ι ι':Z0g}:∀{u:AV}{v:Value},plain u=true->VR sn ι u v->VR sn' ι' u v
 | .bool _,v,h,e=>by simpa[VR]using e
 | .int _ _,v,h,e=>by simpa[VR]using e
 | .str _,v,h,e=>by simpa[VR]using e
 | .nptr,v,h,e=>by simpa[VR]using e
 | .nslice,v,h,e=>by simpa[VR]using e
 | .nmap,v,h,e=>by simpa[VR]using e
 | .nfunc,v,h,e=>by simpa[VR]using e
 | .niface,v,h,e=>by simpa[VR]using e
 | .agg cs,v,h,e=>by
  obtain⟨d,rfl,h1⟩:=e.agg
  exact Z4t (plainL_LR (by simpa[plain]using h) h1)
 | .tuple cs,v,h,e=>by
  obtain⟨d,rfl,h1⟩:=e.tuple
  exact Z4U (plainL_LR (by simpa[plain]using h) h1)
 | .ptr _ _,v,h,e=>by simp[plain]at h
 | .rp _,v,h,e=>by simp[plain]at h
 | .slice ..,v,h,e=>by simp[plain]at h
 | .rs ..,v,h,e=>by simp[plain]at h
 | .map _,v,h,e=>by simp[plain]at h
 | .func ..,v,h,e=>by simp[plain]at h
 | .iface t u,v,h,e=>by
  simp only[VR]at e⊢
  obtain⟨x,rfl,h1⟩:=e
  exact⟨x,rfl,Z6L (by simpa[plain]using h) h1⟩
theorem plainL_LR{sn sn':Z0h}{ι ι':Z0g}:∀{l:List AV}{vs:List Value},plainL l=true->LR sn ι l vs->LR sn' ι' l vs
 |[],vs,h,e=>by simpa[LR]using e
 |c::l,vs,h,e=>by
  simp only[plainL,Y01]at h
  simp only[LR]at e⊢
  obtain⟨d,ds,rfl,h1,h2⟩:=e
  exact⟨d,ds,rfl,Z6L h.1 h1,plainL_LR h.2 h2⟩
end
def Zi4(F:Nat->List AV->Option AV):Orc:=λf args H=>match frzL (frz H 30) args with
 |some az=>match F f az with|some r=>some (r,H)|none=>none
 |none=>none
theorem Z37{P:Program}{gl:Glob}{F:Nat->List AV->Option AV}(h:∀f args r,F f args=some r->plain r=true/\Z0k P gl f args r):OrcSound P gl (Zi4 F):=by
 intro f args H r H' hf sn ι W cargs hg hR ha
 unfold Zi4 at hf
 split at hf<;>try (simp at hf;done)
 rename_i az has
 split at hf<;>simp at hf
 rename_i r' hr
 obtain⟨rfl,rfl⟩:=hf
 obtain⟨h1,h2⟩:=h f az r' hr
 have hle:∀a v,sn a=some v->snx sn 0 W a=some v:=λa v hv=>by
  unfold snx;rw[if_neg (by omega)];exact (hR.snap a v hv).2.1
 have hR':R (snx sn 0 W) noI [] W :=
  ⟨fun b => ⟨fun hb => by simp at hb, fun ⟨p, hp⟩ => by simp [noI] at hp⟩, fun b p hp => by simp [noI] at hp, fun b o p hb => by simp at hb, fun b b' o o' p p' hb => by simp at hb,
    λa v hv=>by
     unfold snx at hv;rw[if_neg (by omega)]at hv
     refine⟨?_,hv,λb o p hb=>by simp at hb⟩
     cases hq:W.heap[a.block]? with
     |none=>unfold World.cell? at hv;rw[hq]at hv;simp at hv
     |some ob=>exact (Y0k.1 hq).1,
    λb o p hb=>by simp at hb⟩
 have hargs:LR (snx sn 0 W) noI az cargs:=Z0Q (λu r v=>Z7I hR (λ_ _ _ _ _ _=>Nat.zero_le _) 30 u r v) has ha
 refine (h2 _ W cargs (hg.mono (Zb1 hle)) hR' hargs).monoY ?_
 rintro e W' ⟨v,rfl,hx,hv⟩
 exact⟨v,sn,ι,rfl,Z6L h1 hv,Stp.ext hR hx⟩
theorem Zo6{t:Bool}{A B:Prop}(h:t=true)(a:A):(t=true->A)/\(t=false->B):=⟨λ_=>a,λe=>(by rw[h]at e;cases e)⟩
theorem Zo7{t:Bool}{A B:Prop}(h:t=false)(b:B):(t=true->A)/\(t=false->B):=⟨λe=>(by rw[h]at e;cases e),λ_=>b⟩
theorem Z03{t:Bool}{A B:Prop}(a:t=true->A)(b:t=false->B):(t=true->A)/\(t=false->B):=⟨a,b⟩
theorem exI{α : Type}{o:Option α}{r : α}{K : α -> Prop}(h:o=some r)(k:K r):∃r,o=some r/\K r:=⟨r,h,k⟩
theorem exW{α : Type}{x n : α}{K : α -> Prop}(h:x=n)(k:K n):∃n,x=n/\K n:=⟨n,h,k⟩
theorem Znz{m j:Nat}(h:m+j<=9223372036854775807):IntKind.i64.wrap ((m:Int)+(j:Int))=((m+j:Nat):Int):=by rw[IntWalk.i64_in _ ⟨by omega,by omega⟩];omega
theorem Zmi{m:Nat}(h:m+1<=9223372036854775807):IntKind.i64.wrap ((m:Int)+1)=((m+1:Nat):Int):=by rw[IntWalk.i64_in _ ⟨by omega,by omega⟩];omega
theorem Z4Q{n:Int}(h1 : -9223372036854775808<=n)(h2:n<=9223372036854775807):IntKind.i64.wrap n=n:=IntWalk.i64_in n ⟨h1,h2⟩
theorem ixJ{i:Int}{n:Nat}{K:Nat->Prop}(j:Nat)(h1:i=(j:Int))(h2:j<n)(k:K j):∃j:Nat,(i=(j:Int)/\j<n)/\K j:=⟨j,⟨h1,h2⟩,k⟩
theorem ZoT{i:Int}{n:Nat}{K:Nat->Prop}(j:Nat)(h1:i=(j:Int))(h2:j<=n)(k:K j):∃j:Nat,(i=(j:Int)/\j<=n)/\K j:=⟨j,⟨h1,h2⟩,k⟩
theorem ixS{i:Int}{s:List UInt8}{K:Nat->UInt8->Prop}(j:Nat){b:UInt8}(h1:i=(j:Int))(h2:s[j]? = some b)(k:K j b):∃j:Nat,i=(j:Int)/\∃b,s[j]? = some b/\K j b:=⟨j,h1,b,h2,k⟩
theorem eqR{u v:AV}{K:Prop}(h:u=v)(k:K):u=v/\K:=⟨h,k⟩
theorem ZeE{P:Program}{F:Nat->List AV->Option AV}{H:Z00}{g:Nat}{args fa:List AV}{r:AV}(h1:Z0b P g=true)(h2:frzL (frz H 30) args=some fa)(h3:F g fa=some r):Z08 P (Zi4 F) H g args=some (r,H):=by
 simp only[Z08,h1,if_true,Zi4,h2,h3]
end Go.Abs
end
section
namespace Go.Abs
open Go.RowKit Go.ChangeShapes Go.WideShapes Go.ChangeAt
def ZfD(P:Program)(t:TypeId):Bool:=match P.underlying t with
 |some (.slice e)=>Nat.blt e P.types.size && !(Y00 (P.cellsOf e) 0)
 |some (.pointer e)=>Nat.blt e P.types.size
 |some (.array _ e)=>Nat.blt e P.types.size
 |some (.map _ e)=>Nat.blt e P.types.size
 |some (.struct fs)=>fs.toList.all λf=>Nat.blt f.type P.types.size
 |_=>true
def Solid(P:Program):Prop:=((List.range P.types.size).all λt=>ZfD P t)=true
theorem Solid.at{P:Program}(h:Solid P){t:TypeId}(ht:t<P.types.size):ZfD P t=true:=Y0i.1 h t (List.mem_range.2 ht)
theorem Z83{a b:Nat}(h:Nat.blt a b=true):a<b:=by simpa[Y09]using h
section keep
variable {H:Type} {enc:TypeId×Value->H} {P:Program} {w w':World} {base:Nat} {sp:Nat->Bool}
theorem ZdY(hP:Solid P):∀(n:Nat)(t:TypeId)(cs:List Value)(x:DataW H×List MemPlace),t<P.types.size->DataW.trod enc P w base (λ_=>true) true n t cs=some x->(∀p∈x.2,sp p.block=true)->DataW.trod enc P w base sp true n t cs=some x:=by
 intro n
 induction n with
 |zero=>intro t cs x _ h;simp[DataW.trod]at h
 |succ n ih =>
  intro t cs x htl h hs
  have hok:=hP.at htl
  unfold ZfD at hok
  rw[DataW.trod_step]at h⊢
  unfold DataW.trodStep at h⊢
  split at h
  case h_6 e a hu =>
   simp only[hu]at hok
   simp only[Y0a,Y08]at h⊢
   obtain⟨y,⟨cs',hc,hy⟩,rfl⟩:=h
   exact⟨y,⟨cs',hc,ih _ _ _ (Z83 hok) hy λp hp=>hs p (by simp[hp])⟩,rfl⟩
  case h_8 e a len cap hu =>
   simp only[hu,Y01]at hok
   have hel:=Z83 hok.1
   have hz:P.cellsOf e≠0:=λh0=>by rw[h0]at hok;cases hok.2
   simp only[if_true]at h⊢
   split at h
   · rename_i hc
     rw[if_pos hc]
     simp only[Y0a,Y08]at h⊢
     obtain⟨els,he,rest,hrest,rfl⟩:=h
     have each : ∀ (i : Nat) (y : DataW H × List MemPlace), y ∈ els ++ rest -> (w.cells? base (a.add (i * P.cellsOf e)) (P.cellsOf e)).bind (DataW.trod enc P w base (fun _ => true) true n e) = some y ->
       (w.cells? base (a.add (i*P.cellsOf e)) (P.cellsOf e)).bind (DataW.trod enc P w base sp true n e)=some y:=by
      intro i y hy hv
      simp only[Y08]at hv⊢
      obtain⟨cs',h1,h2⟩:=hv
      exact⟨cs',h1,ih _ _ _ hel h2 λp hp=>hs p (by simp only[Y0h,Y0l];exact .inr ⟨y,by simpa using hy,hp⟩)⟩
     refine⟨els,mapM_carry he λi y _ hy hv=>each i y (by simp[hy]) hv,rest,?_,rfl⟩
     have hr:=mapM_carry hrest λj y _ hy hv=>each (len+j) y (by simp[hy]) hv
     cases hsp:sp a.block with
     |true=>simpa using hr
     |false =>
      have h0:rest=[]:=by
       cases hq:rest with
       |nil=>rfl
       |cons y l =>
        exfalso
        have h1:0<(els.length+rest.length)*P.cellsOf e:=Nat.mul_pos (by rw[hq];simp only[Y0c];omega) (by omega)
        have:=hs (.cell a.block (a.off+0)) (by simp only[Y0h];exact .inl (MemPlace.mem_row.2 ⟨0,h1,rfl⟩))
        simp only[MemPlace.block]at this
        rw[hsp]at this;cases this
      subst h0
      have hl:([]:List (DataW H×List MemPlace)).length=cap-len:=by simpa using mapM_some_length hrest
      rfl
   ·cases h
  case h_9 fs hu =>
   simp only[hu]at hok
   split at h
   · rename_i hc
     rw[if_pos hc]
     simp only[Y0a]at h⊢
     obtain⟨xs,hx,rfl⟩:=h
     exact⟨xs,mapM_carry hx λf y hf hy hv=>ih _ _ _ (Z83 (Y0i.1 hok f hf)) hv λp hp=>hs p (Y0l.2 ⟨y,hy,hp⟩),rfl⟩
   ·cases h
  case h_10 k e hu =>
   simp only[hu]at hok
   split at h
   · rename_i hc
     rw[if_pos hc]
     simp only[Y0a]at h⊢
     obtain⟨xs,hx,rfl⟩:=h
     exact⟨xs,mapM_carry hx λf y _ hy hv=>ih _ _ _ (Z83 hok) hv λp hp=>hs p (Y0l.2 ⟨y,hy,hp⟩),rfl⟩
   ·cases h
  case h_12=>split at h<;>first|exact h|(rename_i e _;cases e)|cases h
  case h_14 k e b hu =>
   simp only[hu]at hok
   split at h
   · rename_i es clock hb
     split at h
     · rename_i hc
       simp only[Y08]at h
       obtain⟨entries,he,hd⟩:=h
       split at hd
       · rename_i hris
         have hx:=Option.some.inj hd
         subst hx
         simp only[hb,if_pos hc,Y08]
         refine⟨entries,mapM_carry he (λx y _ hy hv=>?_),by simp[hris]⟩
         simp only[Y08]at hv⊢
         obtain⟨key,hk,hz⟩:=hv
         refine⟨key,hk,?_⟩
         split at hz
         · rename_i hf
           rw[if_pos hf]
           simp only[Y0a]at hz⊢
           obtain⟨q,hq,rfl⟩:=hz
           exact⟨q,ih _ _ _ (Z83 hok) hq λp hp=>hs p (by simp only[Y06,Y0l];exact .inr ⟨_,hy,hp⟩),rfl⟩
         ·cases hz
       ·cases hd
     ·cases h
   ·cases h
  all_goals first|exact h|cases h
theorem Ze8(he:Ext w w'){p:MemPlace}(hp:p.block<w.heap.size):w.sameAt w' p:=by
 cases p with
 |cell b off =>
  have:=he.old b hp
  simp only[World.sameAt,World.cell?,this]
 |map b=>exact he.old b hp
theorem Z6c (hP : Solid P) (he : Ext w w') : ∀ {ts : List TypeId} {vs : List Value} {ds : List (DataW H)} {ps : List MemPlace}, (∀ t ∈ ts, t < P.types.size) -> DataW.TrodAll enc P w base (fun _ => true) true ts vs ds ps -> (∀ p ∈ ps, p.block < w.heap.size) -> (∀ p ∈ ps, sp p.block = true) ->
  DataW.TrodAll enc P w' base sp true ts vs ds ps
 |[],[],[],ps,_,h,_,_=>h
 |t::ts,v::vs,d::ds,ps,ht,h,h1,h2=>by
  obtain⟨p,q,⟨fuel,hp⟩,hq,rfl⟩:=h
  refine⟨p,q,⟨fuel,ZdY hP _ _ _ _ (ht t (by simp)) (DataW.trod_carry _ _ _ _ hp λx hx=>Ze8 he (h1 x (by simp[hx]))) λx hx=>h2 x (by simp[hx])⟩,
   Z6c hP he (λt h=>ht t (by simp[h])) hq (λx hx=>h1 x (by simp[hx])) (λx hx=>h2 x (by simp[hx])),rfl⟩
 |[],[],_::_,_,_,h,_,_=>h.elim
 |[],_::_,_,_,_,h,_,_=>h.elim
 |_::_,[],_,_,_,h,_,_=>h.elim
 |_::_,_::_,[],_,_,h,_,_=>h.elim
end keep
def Z69(P:Program)(t:TypeId)(Q:List AV->Prop):Prop :=
 ∀(H:Type)(enc:TypeId×Value->H)(W:World)(fuel:Nat)(cs:List Value)(x:DataW H×List MemPlace),DataW.trod enc P W 0 (λ_=>true) true fuel t cs=some x->∃us,Q us/\LR (Z2j W) noI us cs
section opens
variable {P:Program}
theorem Z5H{t:TypeId}{Q Q':List AV->Prop}(h:Z69 P t Q)(hq:∀us,Q us->Q' us):Z69 P t Q':=λH enc W fuel cs x hx=>let ⟨us,h1,h2⟩:=h H enc W fuel cs x hx;⟨us,hq _ h1,h2⟩
theorem Zeg{t:TypeId}(ht:P.underlying t=some .bool):Z69 P t λus=>∃b,us=[.bool b]:=by
 intro H enc W fuel cs x h
 obtain⟨b,rfl,_⟩:=DataW.trod_bool ht h
 exact⟨_,⟨b,rfl⟩,by simp[LR,VR]⟩
theorem Z3V{t:TypeId}{k:IntKind}(ht:P.underlying t=some (.int k)):Z69 P t λus=>∃n,us=[.int k n]/\(Lit.int k n).wf=true:=by
 intro H enc W fuel cs x h
 obtain⟨n,rfl,_,hw⟩:=DataW.trod_int ht h
 exact⟨_,⟨n,rfl,hw⟩,by simp[LR,VR]⟩
theorem Z59{t:TypeId}(ht:P.underlying t=some .string):Z69 P t λus=>∃s:List UInt8,us=[.str s]/\s.length<=maxLen:=by
 intro H enc W fuel cs x h
 obtain⟨s,rfl,_,hw⟩:=DataW.trod_string ht h
 refine⟨_,⟨s.data.toList,rfl,?_⟩,by simp[LR,VR]⟩
 have:s.data.toList.length=s.size:=by cases s;rfl
 omega
theorem cells?_get{W:World}{a:Addr}{n:Nat}{cs:List Value}(h:W.cells? 0 a n=some cs):cs.length=n/\∀(i:Nat)(v:Value),cs[i]? = some v->W.cell? (a.add i)=some v:=by
 unfold World.cells? at h
 rw[if_pos (Nat.zero_le _)]at h
 have hl:cs.length=n:=by simpa using mapM_some_length h
 refine⟨hl,λi v hv=>?_⟩
 have hi:i<n:=by rw[<- hl];exact (Y04.1 hv).1
 have:=mapM_some_get h i i (by simp[hi])
 rw[this,hv]
theorem Z5T{α : Type}{z:Nat}(hz:z≠0):∀{l:List (List α)}{k:Nat}{y : α},(∀u∈l,u.length=z)->l.flatten[k]? = some y->∃x,l[k / z]? = some x/\x[k % z]? = some y
 |[],k,y,h,hk=>by simp at hk
 |u::l,k,y,h,hk=>by
  have hu:=h u (by simp)
  simp only[List.flatten_cons]at hk
  by_cases hlt:k<z
  · rw[Y0j (by omega)]at hk
    exact⟨u,by simp[Nat.div_eq_of_lt hlt],by rw[Nat.mod_eq_of_lt hlt];exact hk⟩
  · rw[List.getElem?_append_right (by omega),hu]at hk
    obtain⟨x,h1,h2⟩:=Z5T hz (λv hv=>h v (by simp[hv])) hk
    have e1:k / z=(k-z) / z+1:=by
     rw[<- Nat.add_div_right _ (by omega),Nat.sub_add_cancel (by omega)]
    have e2:k % z=(k-z) % z:=by
     rw[<- Nat.add_mod_right (k-z) z,Nat.sub_add_cancel (by omega)]
    exact⟨x,by rw[e1];simpa using h1,by rw[e2];exact h2⟩
theorem Z8a(a:Addr)(h:a.spot=none)(i j:Nat):(a.add i).add j=⟨a.block,a.off+i+j,none⟩:=by
 obtain⟨b,o,s⟩:=a
 simp only at h
 subst h
 unfold Addr.add
 split<;>split<;>simp_all
theorem Z7p {t e : TypeId} {z : Nat} {Q : List AV -> Prop} (ht : P.underlying t = some (.slice e)) (hz : P.cellsOf e = z) (hz0 : z ≠ 0) (he : Z69 P e Q) :
  Z69 P t λus=>∃l:List (List AV),(∀u∈l,Q u/\u.length=z)/\us=[.rs l.length z l.flatten]/\l.length<=maxLen:=by
 intro H enc W fuel cs x h
 rcases DataW.trod_slice ht h with ⟨rfl,_⟩|⟨a,len,cap,els,rest,n,_,rfl,_,_,hlc,hcm,hl,hel,hrest⟩
 ·exact⟨_,⟨[],by simp,rfl,by simp⟩,by simp[LR,VR]⟩
 · rw[hz]at hel
   have each:∀i,i<len->∃ (vs:List Value) (u:List AV),W.cells? 0 (a.add (i*z)) z=some vs/\Q u/\LR (Z2j W) noI u vs:=by
    intro i hi
    have h1:=hel i hi
    have h2:els[i]? = some els[i]:=Y07 (by omega)
    rw[h2]at h1
    simp only[Y08]at h1
    obtain⟨vs,h3,h4⟩:=h1
    obtain⟨u,h5,h6⟩:=he H enc W n vs _ h4
    exact⟨vs,u,h3,h5,h6⟩
   have hex:∃ (l:List (List AV)) (vss:List (List Value)),l.length=len/\vss.length=len/\∀i,i<len->∃vs u,l[i]? = some u/\vss[i]? = some vs/\W.cells? 0 (a.add (i*z)) z=some vs/\Q u/\LR (Z2j W) noI u vs:=by
    clear hel hl h hlc hcm hrest
    induction len with
    |zero=>exact⟨[],[],rfl,rfl,λi hi=>by omega⟩
    |succ m ih =>
     obtain⟨l,vss,h1,h2,h3⟩:=ih λi hi=>each i (by omega)
     obtain⟨vs,u,g1,g2,g3⟩:=each m (by omega)
     refine⟨l++[u],vss++[vs],by simp[h1],by simp[h2],λi hi=>?_⟩
     by_cases e:i=m
     · subst e
       exact⟨vs,u,by simp[<- h1],by simp[<- h2],g1,g2,g3⟩
     · obtain⟨vs',u',k1,k2,k3⟩:=h3 i (by omega)
       exact⟨vs',u',by rw[Y0j (by omega)];exact k1,by rw[Y0j (by omega)];exact k2,k3⟩
   obtain⟨l,vss,h1,h2,h3⟩:=hex
   have hll:∀u∈l,Q u/\u.length=z:=by
    intro u hu
    obtain⟨i,hi,rfl⟩:=Y0m.1 hu
    obtain⟨vs,u',k1,k2,k3,k4,k5⟩:=h3 i (by omega)
    rw[Y07 hi]at k1;simp at k1
    rw[k1]
    exact⟨k4,by rw[<- k5.length,(cells?_get k3).1]⟩
   refine⟨_,⟨l,hll,rfl,by omega⟩,?_⟩
   simp only[LR]
   refine⟨_,_,rfl,?_,rfl⟩
   simp only[VR]
   have hfl:l.flatten.length=l.length*z:=by
    clear h1 h3
    induction l with
    |nil=>simp
    |cons u l ih=>simp only[List.flatten_cons,List.length_append,Y0c,(hll u (by simp)).2,ih λv hv=>hll v (by simp[hv])];rw[Nat.add_mul];omega
   have hspot:len≠0->a.spot=none:=by
    intro h0
    obtain⟨vs,u,k1,k2,k3,k4,k5⟩:=h3 0 (by omega)
    obtain⟨g1,g2⟩:=cells?_get k3
    have:W.cell? ((a.add (0*z)).add 0)=some vs[0]:=g2 0 _ (Y07 (by omega))
    rw[Nat.zero_mul]at this
    simpa[Addr.add]using World.cell?_spot this
   refine .inr ⟨a,cap,by rw[h1],by omega,hfl,Z2o λk u hu=>?_,λh0=>hspot (by rw[<- h1];exact h0)⟩
   obtain⟨x',g1,g2⟩:=Z5T hz0 (λu hu=>(hll u hu).2) hu
   have hklt:k / z<len:=by rw[<- h1];exact (Y04.1 g1).1
   obtain⟨vs,u',k1,k2,k3,k4,k5⟩:=h3 (k / z) hklt
   rw[g1]at k1;simp at k1;subst k1
   obtain⟨v,e1,e2⟩:=k5.get g2
   refine⟨v,?_,e2⟩
   have hc:=(cells?_get k3).2 _ _ e1
   rw[Z8a a (hspot (Nat.ne_of_gt (Nat.lt_of_le_of_lt (Nat.zero_le _) hklt)))]at hc
   have hk:a.off+k / z*z+k % z=a.off+k:=by rw[Nat.add_assoc,Nat.mul_comm,Nat.div_add_mod]
   rw[hk]at hc
   unfold Z2j
   have hlt:a.block<W.heap.size:=by
    cases hq:W.heap[a.block]? with
    |none=>unfold World.cell? at hc;simp only[hq]at hc;cases hc
    |some ob=>exact (Y0k.1 hq).1
   rw[if_pos (by exact hlt)];exact hc
def FsQ:List (List AV->Prop)->List AV->Prop
 |[],us=>us=[]
 |Q::Qs,us=>∃u us',us=u++us'/\Q u/\FsQ Qs us'
def Z3G(P:Program):List Field->List (List AV->Prop)->Nat->Nat->Prop
 |[],[],off,tot=>off=tot
 |f::fs,Q::Qs,off,tot=>f.offset=off/\Z69 P f.type Q/\Z3G P fs Qs (off+P.cellsOf f.type) tot
 |_,_,_,_=>False
theorem Zd9 {H : Type} {enc : TypeId × Value -> H} {W : World} {n tot : Nat} {cs : List Value} (hcs : cs.length = tot) : ∀ {fs : List Field} {Qs : List (List AV -> Prop)} {xs : List (DataW H × List MemPlace)} {off : Nat}, Z3G P fs Qs off tot -> xs.length = fs.length -> off <= tot ->
  (∀(i:Nat)(f:Field),fs[i]? = some f->DataW.trod enc P W 0 (λ_=>true) true n f.type ((cs.drop f.offset).take (P.cellsOf f.type))=xs[i]?)->∃us,FsQ Qs us/\LR (Z2j W) noI us (cs.drop off)
 |[],[],xs,off,h,hl,ho,hx=>by
  have:off=tot:=h
  subst this
  exact⟨[],rfl,by simp[LR,<- hcs]⟩
 |f::fs,Q::Qs,xs,off,h,hl,ho,hx=>by
  obtain⟨h1,h2,h3⟩:=h
  cases xs with
  |nil=>simp at hl
  |cons x xs =>
   have h0:=hx 0 f rfl
   simp only[List.getElem?_cons_zero]at h0
   obtain⟨u,q1,q2⟩:=h2 H enc W n _ _ h0
   have hle:∀(fs:List Field)(Qs:List (List AV->Prop))(o:Nat),Z3G P fs Qs o tot->o<=tot:=by
    intro fs
    induction fs with
    |nil=>intro Qs o h;cases Qs with|nil=>exact Nat.le_of_eq h|cons _ _=>exact h.elim
    |cons g gs ih=>intro Qs o h;cases Qs with|nil=>exact h.elim|cons _ _=>have:=ih _ _ h.2.2;omega
   obtain⟨us,q3,q4⟩:=Zd9 hcs h3 (by simpa using hl) (hle _ _ _ h3) λi g hg=>by simpa using hx (i+1) g (by simpa using hg)
   refine⟨u++us,⟨u,us,rfl,q1,q3⟩,?_⟩
   rw[h1]at q2
   have:=q2.append q4
   rwa [<- List.drop_drop,List.take_append_drop]at this
 |[],_::_,xs,off,h,hl,ho,hx=>h.elim
 |_::_,[],xs,off,h,hl,ho,hx=>h.elim
theorem Z6i{t:TypeId}{fs:Array Field}{Qs:List (List AV->Prop)}(ht:P.underlying t=some (.struct fs))(h:Z3G P fs.toList Qs 0 (P.cellsOf t)):Z69 P t (FsQ Qs):=by
 intro H enc W fuel cs x hx
 obtain⟨xs,n,_,_,hl,hlen,hf⟩:=DataW.trod_struct ht hx
 obtain⟨us,h1,h2⟩:=Zd9 hl h (by simpa using hlen) (Nat.zero_le _) λi f hi=>hf i f (by simpa using hi)
 exact⟨us,h1,by simpa using h2⟩
end opens
end Go.Abs
end
section
namespace Go.Abs
open Go.RowKit Go.ChangeShapes Go.WideShapes Go.ChangeAt
def ZbF(P:Program)(t:TypeId)(Q:AV->Prop):Prop :=
 ∀(H:Type)(enc:TypeId×Value->H)(W:World)(r:Reach)(b:Nat)(v:Value)(d:DataW H)(p:List MemPlace),Value.okWide P W r b t v->DataW.Trod enc P W 0 (λ_=>true) true t v d p->∃u,Q u/\VR (Z2j W) noI u v
section opens
variable {P:Program}
theorem Z9D{t:TypeId}{fs:Array Field}{Qs:List (List AV->Prop)}(ht:P.underlying t=some (.struct fs))(h:Z3G P fs.toList Qs 0 (P.cellsOf t)):ZbF P t λu=>∃us,u = .agg us/\FsQ Qs us:=by
 intro H enc W r b v d p hv ⟨fuel,hx⟩
 obtain⟨cs,rfl,_⟩:=okWide_struct ht hv
 obtain⟨us,hq,hl⟩:=Z6i ht h H enc W fuel _ _ hx
 exact⟨_,⟨us,rfl,hq⟩,Z4t (by simpa[Value.cells]using hl)⟩
theorem Zc8{t:TypeId}{Q Q':AV->Prop}(h:ZbF P t Q)(hq:∀u,Q u->Q' u):ZbF P t Q':=λH enc W r b v d p hv ht=>let ⟨u,h1,h2⟩:=h H enc W r b v d p hv ht;⟨u,hq _ h1,h2⟩
end opens
def Z75(P:Program):List TypeId->List (AV->Prop)->Prop
 |[],[]=>True
 |t::ts,Q::Qs=>ZbF P t Q/\Z75 P ts Qs
 |_,_=>False
def Zm6:List (AV->Prop)->List AV->Prop
 |[],[]=>True
 |Q::Qs,u::us=>Q u/\Zm6 Qs us
 |_,_=>False
theorem Zjb{us:List AV}(h:Zm6 [] us):us=[]:=by cases us with|nil=>rfl|cons _ _=>exact h.elim
theorem Zhk{Q:AV->Prop}{Qs:List (AV->Prop)}{us:List AV}(h:Zm6 (Q::Qs) us):∃u us',us=u::us'/\Q u/\Zm6 Qs us':=by
 cases us with
 |nil=>exact h.elim
 |cons u us=>exact⟨u,us,rfl,h.1,h.2⟩
theorem ZaH {P : Program} {H : Type} {enc : TypeId × Value -> H} {W : World} {r : Reach} {b : Nat} : ∀ {ts : List TypeId} {Qs : List (AV -> Prop)} {vs : List Value} {ds : List (DataW H)} {ps : List MemPlace}, Z75 P ts Qs ->
  (∀(j:Nat) t v,ts[j]? = some t->vs[j]? = some v->Value.okWide P W r b t v)->DataW.TrodAll enc P W 0 (λ_=>true) true ts vs ds ps->ds.length=ts.length/\∃us,Zm6 Qs us/\LR (Z2j W) noI us vs
 |[],[],[],[],ps,ho,hv,h=>⟨rfl,[],trivial,by simp[LR]⟩
 |t::ts,Q::Qs,v::vs,d::ds,ps,ho,hv,h=>by
  obtain⟨p,q,hp,hq,_⟩:=h
  obtain⟨u,h1,h2⟩:=ho.1 H enc W r b v d p (hv 0 t v rfl rfl) hp
  obtain⟨hl,us,h3,h4⟩:=ZaH ho.2 (λj t v ht hv'=>hv (j+1) t v (by simpa using ht) (by simpa using hv')) hq
  exact⟨by simp[hl],u::us,⟨h1,h3⟩,by simp only[LR];exact⟨v,vs,rfl,h2,h4⟩⟩
 |[],_::_,_,_,_,ho,_,_=>ho.elim
 |_::_,[],_,_,_,ho,_,_=>ho.elim
 |[],[],[],_::_,_,_,_,h=>h.elim
 |[],[],_::_,_,_,_,_,h=>h.elim
 |_::_,_::_,[],_,_,_,_,h=>h.elim
 |_::_,_::_,_::_,[],_,_,_,h=>h.elim
theorem law_calls {P : Program} {gl : Glob} {f : Nat} {fn : Func} {s : ChangeSpec} {Qs : List (AV -> Prop)} {tb : TypeId} (hP : Solid P) (hts : (fn.params.toList.all fun t => Nat.blt t P.types.size) = true) (ho : Z75 P fn.params.toList Qs) (hlaw : ∀ us, Zm6 Qs us -> Z0k P gl f us (.bool true))
  (hvars:s.vars=[]) (hfn:∀(H:Type)(ds:List (DataW H)),ds.length=fn.params.toList.length->(s.fn H ds).results=[.lit (.bool true)]/\(s.fn H ds).args=ds/\(s.fn H ds).vars=[]) (hr:fn.resultTypes = #[tb]) (hb:P.underlying tb=some .bool)
  {H:Type} {enc:TypeId×Value->H} {W:World} {base:Nat} {args:Array Value} {ds gs:List (DataW H)} {before:List MemPlace} (hg:GlOK gl (Z2j W))
  (hval:∀(j:Nat) t v,fn.params[j]? = some t->args[j]? = some v->Value.okWide P W .any base t v) (hW:DataW.Whole enc P fn.params.toList s.vars false W args.toList ds gs before) :
  Calls P f args W λe W'=>∃v,e = .returned v/\s.post enc P fn false true false false W args v W':=by
 have hW':=hW
 obtain⟨p,q,hA,hV,rfl,hfz,hnd⟩:=hW
 rw[hvars]at hV
 obtain⟨rfl,rfl⟩:=trodVars_none hV
 obtain⟨hl,us,hq,hlr⟩:=ZaH ho (λj t v ht hv=>hval j t v (by simpa using ht) (by simpa using hv)) hA
 have hlt:∀x∈p++[],x.block<W.heap.size:=λx hx=>hW'.lt x hx
 refine ((hlaw us hq) (Z2j W) W args.toList hg (R0 W) hlr).mono ?_
 rintro e W' ⟨v,rfl,hx,hv⟩
 cases hv.bool
 obtain⟨h1,h2,h3⟩:=hfn H ds (by simpa using hl)
 refine⟨_,rfl,Zec (pa:=p) (pv:=[]) hW' (λb sp hd=>?_) (λsp hsp=>?_) (λsp _=>by rw[hvars,Y0g,h3];rfl) rfl (Stp.below (Stp.ext (R0 W) hx)) (ok_one hr rfl (okWide_bool_mk hb _))⟩
 · rw[Y0g,h1,hr]
   exact trodAll_cons_mk (shut_bool hb _) trodAll_mk0
 · rw[Y0g,h2]
   exact Z6c hP hx (λt ht=>Z83 (Y0i.1 hts t ht)) hA (λx hx=>hlt x (by simp[hx])) λx hx=>hsp x (by simp[hx])
end Go.Abs
end
section
namespace Go.Abs
open Go.RowKit
theorem FgL.mk{t0 tm:Tr}{H:Z00}{l:List (Nat×AV)}{H2:Z00}(m:List Nat)(h:ZbI t0 tm=true)(h1:SlotsGe m tm l)(h2:HpGe H m m H2 0)(h3:Z0H (m.map (Z1b H))=true):FgL t0 tm H l H2:=by
 unfold FgL FgLK;rw[h];exact .inl ⟨m,rfl,h1,h2,h3⟩
theorem FgLK.mk{k:Nat}{t0 tm:Tr}{H:Z00}{l:List (Nat×AV)}{H2:Z00}(m:List Nat)(hk:ZhA k 0 m=true)(h:ZbI t0 tm=true)(h1:SlotsGe m tm l)(h2:HpGe H m m H2 0)(h3:Z0H (m.map (Z1b H))=true):FgLK k t0 tm H l H2:=by
 unfold FgLK;rw[h];exact .inl ⟨m,hk,h1,h2,h3⟩
theorem FgL.mk0{t0 tm:Tr}{H:Z00}{l:List (Nat×AV)}(h:ZbI t0 tm=true)(h1:SlotsGe [] tm l):FgL t0 tm H l []:=FgL.mk [] h h1 trivial rfl
theorem ZoQ{a b:Int}{K:Prop}(h:a<=b)(k:K):a<=b/\K:=⟨h,k⟩
def ZeZ(P Q:Prop):Prop:=Q->P
theorem s1T{t:Bool}{A B:Prop}(h:t=true):ZeZ ((t=true->A)/\(t=false->B)) A:=Zo6 h
theorem s1F{t:Bool}{A B:Prop}(h:t=false):ZeZ ((t=true->A)/\(t=false->B)) B:=Zo7 h
theorem s1I{α : Type}{o:Option α}{r : α}{K : α -> Prop}(h:o=some r):ZeZ (∃r,o=some r/\K r) (K r):=exI h
theorem s1R{u v:AV}{K:Prop}(h:u=v):ZeZ (u=v/\K) K:=eqR h
theorem s1W{α : Type}{x n : α}{K : α -> Prop}(h:x=n):ZeZ (∃n,x=n/\K n) (K n):=exW h
theorem s1J{i:Int}{n:Nat}{K:Nat->Prop}(j:Nat)(h1:i=(j:Int))(h2:j<n):ZeZ (∃j:Nat,(i=(j:Int)/\j<n)/\K j) (K j):=ixJ j h1 h2
theorem Zoq{i:Int}{n:Nat}{K:Nat->Prop}(j:Nat)(h1:i=(j:Int))(h2:j<=n):ZeZ (∃j:Nat,(i=(j:Int)/\j<=n)/\K j) (K j):=ZoT j h1 h2
theorem s1S{i:Int}{s:List UInt8}{K:Nat->UInt8->Prop}(j:Nat){b:UInt8}(h1:i=(j:Int))(h2:s[j]? = some b):ZeZ (∃j:Nat,i=(j:Int)/\∃b,s[j]? = some b/\K j b) (K j b):=ixS j h1 h2
theorem s1L{a b:Int}{K:Prop}(h:a<=b):ZeZ (a<=b/\K) K:=ZoQ h
theorem stp{P Q:Prop}(q:Q)(h:ZeZ P Q:=by
 first
 |(with_reducible refine s1T ?_;(focus (assumption)))|(with_reducible refine s1F ?_;(focus (assumption)))
 |(with_reducible refine s1T ?_;(focus (decide)))|(with_reducible refine s1F ?_;(focus (decide)))
 |(with_reducible refine s1T ?_;(focus ((first|assumption|decide|(simp;done)|(simp;omega));done)))
 |(with_reducible refine s1F ?_;(focus ((first|assumption|decide|(simp;done)|(simp;omega));done)))
 |with_reducible exact s1I rfl
 |with_reducible exact s1R rfl
 |(with_reducible refine s1W (Zmi ?_);focus omega)|(with_reducible refine s1W (Znz ?_);focus omega)|(with_reducible refine s1W (Z4Q ?_ ?_);(focus (omega));focus omega)
 |with_reducible exact s1W rfl
 |(with_reducible refine s1J _ rfl ?_;(focus ((first|decide|omega|(simp;done)|(simp;omega));done)))
 |(with_reducible refine Zoq _ rfl ?_;(focus ((first|decide|omega|(simp;done)|(simp;omega));done)))
 |(refine s1J (Int.toNat _) ?_ ?_;(focus ((first|rfl|decide|omega|(simp;done));done));(focus ((first|decide|omega|(simp;done)|(simp;omega));done)))
 |(refine Zoq (Int.toNat _) ?_ ?_;(focus ((first|rfl|decide|omega|(simp;done));done));(focus ((first|decide|omega|(simp;done)|(simp;omega));done)))
 |with_reducible exact s1S _ rfl (by assumption)
 |(with_reducible refine s1L ?_;(focus (first|decide|omega)))
 |(refine s1I (ZeE rfl rfl (if_pos ?_));(focus ((first|decide|omega|(simp;done)|(simp;omega));done)))):P:=h q
end Go.Abs
end
section
namespace Go.Abs
open Go.RowKit
def lone(f b:Nat):Nat->Z00->Bool
 |_,[]=>true
 |i,o::H=>(Y00 i b || !Y00 o.fam f)&&lone f b (i+1) H
theorem ZcV:∀{cs:List AV}{n:Nat},cs.length=n->tk n cs=some cs
 |[],0,_=>rfl
 |c::cs,n+1,h=>by simp only[tk,ZcV (cs:=cs) (n:=n) (by simpa using h)]
 |c::cs,0,h=>by simp at h
 |[],n+1,h=>by simp at h
def lit:AV->Bool
 | .bool _=>true
 | .int _ _=>true
 | .str _=>true
 |_=>false
theorem Zl9{H:Z00}{n:Nat}:∀{u:AV},lit u=true->frz H (n+1) u=some u
 | .bool _,_=>rfl
 | .int _ _,_=>rfl
 | .str _,_=>rfl
theorem Zdr{H:Z00}{n:Nat}:∀{cs:List AV},cs.all lit=true->frzL (frz H (n+1)) cs=some cs
 |[],_=>rfl
 |c::cs,h=>by
  simp only[List.all_cons,Y01]at h
  simp only[frzL,Zl9 h.1,Zdr h.2]
theorem Zkg{α : Type}(f : α -> AV)(l:List α)(j:Nat)(h:j<l.length){off:Nat}(e:off=j):tk 1 ((l.map f).drop off)=some [f l[j]]:=by
 subst e
 rw[List.drop_eq_getElem_cons (by simpa using h)];simp[tk]
theorem Zls{P:Program}{d t:Nat}{k:IntKind}(h:P.underlying t=some (.int k))(a b:Int):eqB P (d+1) t (.int k a) (.int k b)=some (a==b):=by simp[eqB,aEq,h]
theorem Zlr{P:Program}{d t:Nat}(h:P.underlying t=some .string)(a b:List UInt8):eqB P (d+1) t (.str a) (.str b)=some (a==b):=by simp[eqB,aEq,h]
theorem ZiQ{P:Program}{d t:Nat}(h:P.underlying t=some .bool)(a b:Bool):eqB P (d+1) t (.bool a) (.bool b)=some (a==b):=by simp[eqB,aEq,h]
theorem Za0 {P : Program} {e : TypeId -> AV -> AV -> Option Bool} {t off : Nat} {fs : List (TypeId × Nat)} {xs ys : List AV} {a b : AV} {p q : Bool} (ht : Z3K P t = some false) (hx : xs[off]? = some a) (hy : ys[off]? = some b) (h : e t a b = some p) (h2 : Z9Z e P fs xs ys = some q) :
  Z9Z e P ((t,off)::fs) xs ys=some (p&&q):=by
 simp only[Z9Z,Z64,ht,hx,hy,h,h2]
theorem Zlt{P:Program}{d t:Nat}{fs:List (TypeId×Nat)}{xs ys:List AV}(hf:Z3w P t=some fs):eqB P (d+1) t (.agg xs) (.agg ys)=Z9Z (eqB P d) P fs xs ys:=by simp only[eqB,hf]
theorem Zjc{P:Program}{t:TypeId}{fs:List (TypeId×Nat)}{xs ys:List AV}{r:Bool}(hg:P.eqGuardType P.depth t=false)(hf:Z3w P t=some fs)(h:Z9Z (eqB P 9999) P fs xs ys=some r):ZcB P t xs ys=some r:=by
 unfold ZcB
 rw[hg,if_neg (by decide)]
 exact (Zlt (d:=9999) hf).trans h
section facts
open Classical
noncomputable def Znl(l:List (Nat×List AV×AV)):Orc:=Zjs λf args=>(l.find? λp=>decide (p.1=f/\p.2.1=args)).map (·.2.2)
def Facts(P:Program)(gl:Glob):List (Nat×List AV×AV)->Prop
 |[]=>True
 |(f,args,r)::l=>refsL args []=[]/\Z0k P gl f args r/\Facts P gl l
theorem Facts.mem{P:Program}{gl:Glob}:∀{l:List (Nat×List AV×AV)}{p},Facts P gl l->p∈l->refsL p.2.1 []=[]/\Z0k P gl p.1 p.2.1 p.2.2
 |(f,args,r)::l,p,h,hm=>by
  rcases Y06.1 hm with rfl|hm
  ·exact⟨h.1,h.2.1⟩
  ·exact Facts.mem h.2.2 hm
theorem Zef{P:Program}{gl:Glob}{l:List (Nat×List AV×AV)}(h:Facts P gl l):OrcSound P gl (Znl l):=Z5G λf args r e=>by
 simp only[Y0a]at e
 obtain⟨p,e1,rfl⟩:=e
 have hm:=List.mem_of_find?_eq_some e1
 have hp:=List.find?_some e1
 simp only[decide_eq_true_eq]at hp
 obtain⟨rfl,rfl⟩:=hp
 exact h.mem hm
theorem Zob{P:Program}{l:List (Nat×List AV×AV)}{H:Z00}{g:Nat}{args:List AV}{r:AV}(h1:Z0b P g=true)(h2:l.find? (λp=>decide (p.1=g/\p.2.1=args))=some (g,args,r)):Z08 P (Znl l) H g args=some (r,H):=by
 simp only[Z08,h1,if_true,Znl,Zjs,h2,Option.map_some]
theorem Zes{l:List (Nat×List AV×AV)}{g:Nat}{args:List AV}{r:AV}:((g,args,r)::l).find? (λp=>decide (p.1=g/\p.2.1=args))=some (g,args,r):=by simp
end facts
end Go.Abs
end
section
namespace Go.Abs
open Go.RowKit
def Z2f(P:Program)(gl:Glob)(f:Nat)(args:List AV)(H:Z00)(r:AV)(H':Z00):Prop :=
 ∀(sn:Z0h)(ι : Z0g)(W:World)(cargs:List Value),GlOK gl sn->R sn ι H W->LR sn ι args cargs ->
  CallsY P f cargs.toArray W λe W'=>∃v sn' ι',e = .returned v/\VR sn' ι' r v/\Stp sn ι H W sn' ι' H' W'
def ZhC(k:Nat):Z00->Z00->Bool
 |[],[]=>true
 |o::H,o'::H'=>Y00 o'.fam o.fam&&(Y00 o'.sh o.sh&&((!o'.alive || o.alive)&&(Z0e k (Z36 o'.body [])&&ZhC k H H')))
 |_,_=>false
theorem Z9Y{k:Nat}:∀{H H':Z00},ZhC k H H'=true->H'.length=H.length/\∀(b:Nat)(o o':AObj),H[b]? = some o->H'[b]? = some o'->o'.fam=o.fam/\o'.sh=o.sh/\(o'.alive=true->o.alive=true)/\Z0e k (Z36 o'.body [])=true
 |[],[],h=>⟨rfl,λb o o' e=>by simp at e⟩
 |x::H,y::H',h=>by
  simp only[ZhC,Y01]at h
  obtain⟨h1,h2,h3,h4,h5⟩:=h
  obtain⟨k1,k2⟩:=Z9Y h5
  refine⟨by simp[k1],λb o o' e e'=>?_⟩
  cases b with
  |zero =>
   simp at e e';subst e;subst e'
   exact⟨Y05 h1,Y05 h2,λha=>by simpa[ha]using h3,h4⟩
  |succ b=>exact k2 b o o' (by simpa using e) (by simpa using e')
 |[],_::_,h=>by simp[ZhC]at h
 |_::_,[],h=>by simp[ZhC]at h
theorem Z4b{k:Nat}:∀{l:List Nat},Z0e k l=true->∀b∈l,b<k
 |[],h,b,hb=>by cases hb
 |n::l,h,b,hb=>by
  simp only[Z0e,Y01]at h
  rcases Y06.1 hb with rfl|hb
  ·exact Z83 h.1
  ·exact Z4b h.2 b hb
theorem ZaD:∀(l:List AV)(acc:List Nat)(i:Nat)(c:AV),l[i]? = some c->∃acc',∀b,b∈refs c acc'->b∈refsL l acc
 |[],acc,i,c,h=>by simp at h
 |x::l,acc,0,c,h=>by simp at h;subst h;exact⟨refsL l acc,λb hb=>by simpa[refsL]using hb⟩
 |x::l,acc,i+1,c,h=>by
  obtain⟨acc',h1⟩:=ZaD l acc i c (by simpa using h)
  exact⟨acc',λb hb=>by simp only[refsL];exact Z1w x _ b (h1 b hb)⟩
def ZmS(P:Program)(l:List ResultVar)(k:Nat)(H0:Z00)(r:AV)(H1:Z00)(tm:Tr)(H:Z00):Prop :=
 onO (Z2w P tm H l) λvs=>Z0J vs=r/\H.take k=H1/\(Z0e k (refs r [])&&ZhC k H0 H1)=true
theorem ZaB{sn:Z0h}{ι : Z0g}{us:List AV}{vs:List Value}{fn:Func}(h4:LR sn ι us vs):VR sn ι (Z0J us) (if h:vs.toArray.size=1 then vs.toArray[0] else .tuple vs.toArray):=by
 match us,h4 with
 |[],h4=>simp only[LR]at h4;subst h4;simp[Z0J,VR,LR]
 |[u],h4 =>
  simp only[LR]at h4
  obtain⟨d,ds,rfl,hd,rfl⟩:=h4
  simpa[Z0J]using hd
 |u::u'::l,h4 =>
  have hl:=h4.length
  simp only[Y0c]at hl
  have:vs.toArray.size≠1:=by simp[hl]
  rw[dif_neg this]
  simp only[Z0J,VR]
  exact⟨_,rfl,h4⟩
theorem Ze1 {sn sn1 : Z0h} {ι ι1 : Z0g} {H0 H H1 : Z00} {W W1 : World} {k : Nat} (hk : H0.length = k) (hR : R sn ι H0 W) (s1 : Stq k sn ι H0 W sn1 ι1 H W1) (h3 : H.take k = H1) (h5 : ZhC k H0 H1 = true) :
  ∃ι',Stp sn ι H0 W sn1 ι' H1 W1/\∀u v,Z0e k (refs u [])=true->VR sn1 ι1 u v->VR sn1 ι' u v:=by
 obtain⟨e1,e2⟩:=Z9Y h5
 have hpl:∀b,b<k->∃p,ι b=some p /\ ι1 b=some p:=λb hb=>by
  obtain⟨p,hp⟩:=(hR.dom b).1 (by omega)
  exact⟨p,hp,s1.keep b p hb hp⟩
 let ι':Z0g:=λb=>if b<k then ι1 b else none
 have hi:∀b,b<k->∀p,ι1 b=some p -> ι' b=some p:=λb hb p hp=>by show (if b<k then ι1 b else none)=some p;rw[if_pos hb];exact hp
 have hi2:∀b p,ι' b=some p->b<k /\ ι1 b=some p:=λb p hp=>by
  have hp:(if b<k then ι1 b else none)=some p:=hp
  split at hp
  ·exact⟨by assumption,hp⟩
  ·cases hp
 have hH:∀(b:Nat)(o:AObj),H1[b]? = some o->b<k/\H[b]? = some o:=λb o hb=>by
  have hb':b<H1.length:=(Y04.1 hb).1
  rw[e1,hk]at hb'
  rw[<- h3,List.getElem?_take_of_lt hb']at hb
  exact⟨hb',hb⟩
 have hR1:R sn1 ι' H1 W1:=by
  refine⟨λb=>⟨λhb=>?_,λ⟨p,hp⟩=>?_⟩,λb p hp=>s1.rel.blk b p (hi2 b p hp).2,λb o p hb hal hp=>?_,λb b' o o' p p' hb hb' ha ha' hp hp' e=>?_,λad v hv=>?_,λb o p hb hp e=>?_⟩
  · rw[e1,hk]at hb
    obtain⟨p,_,hp⟩:=hpl b hb
    exact⟨p,hi b hb p hp⟩
  ·rw[e1,hk];exact (hi2 b p hp).1
  · obtain⟨hb1,hb2⟩:=hH b o hb
    obtain⟨_,hp⟩:=hi2 b p hp
    have h0:b<H0.length:=by omega
    have h6:=(e2 b _ o (Y07 h0) hb).2.2.2
    exact ZcO o.body p (λx hx q hq=>hi x (Z4b h6 x hx) q hq) (s1.rel.obj b o p hb2 hal hp)
  · obtain⟨_,hb2⟩:=hH b o hb
    obtain⟨_,hb2'⟩:=hH b' o' hb'
    exact s1.rel.sep b b' o o' p p' hb2 hb2' ha ha' (hi2 _ _ hp).2 (hi2 _ _ hp').2 e
  · obtain⟨g1,g2,g3⟩:=s1.rel.snap ad v hv
    refine⟨g1,g2,λb o p hb hal hp=>?_⟩
    obtain⟨_,hb2⟩:=hH b o hb
    exact g3 b o p hb2 hal (hi2 _ _ hp).2
  · obtain⟨_,hb2⟩:=hH b o hb
    exact s1.rel.shz b o p hb2 (hi2 _ _ hp).2 e
 refine⟨ι',⟨hR1,⟨s1.le,λb p hb=>?_⟩,λb p hp=>.inl ?_,s1.frame,s1.size,s1.os,s1.tape,s1.output,s1.sfresh,λb o hb=>?_⟩,λu v hu hv=>?_⟩
 · have hbk:b<k:=by have:=(hR.dom b).2 ⟨p,hb⟩;omega
   exact hi b hbk p (s1.keep b p hbk hb)
 · obtain⟨hbk,hp1⟩:=hi2 b p hp
   obtain⟨q,hq,hq1⟩:=hpl b hbk
   rw[hq1]at hp1;cases hp1;exact hq
 · have hb0:=(Y04.1 hb).1
   have hb1:b<H1.length:=by omega
   obtain⟨g1,g2,g3,_⟩:=e2 b o _ hb (Y07 hb1)
   exact⟨_,Y07 hb1,g1,g2,g3⟩
 ·exact Z1h (ι:=ι1) u [] _ (λx hx q hq=>hi x (Z4b hu x hx) q hq) hv
theorem fn_memR {rf : AV -> Array Tmp -> Code -> Code -> KN -> KX -> KN -> Tr -> Z00 -> Prop} {P : Program} {gl : Glob} {orc : Orc} {k : Nat} (hrf : Zog P gl none k rf) (hm : P.follows .mixedOrders = true) (hn : NoNum P) (hO : OrcSound P gl orc) {f : Nat} {fn : Func} {c : Code} {args : List AV} {H0 H1 : Z00} {r : AV} (hk : H0.length = k)
  (hf:P.funcs[f]? = some fn) (hc:fn.body=some c) {cw:CW} (hcw:ZbN P orc cw)
  (h:Z1p (tmk (Z9i args fn.ntmps args.length) (Z8t 20 fn.ntmps)) λtm=>Z21 P gl orc cw ⟨Z6A k,rf⟩ c (ZmS P fn.results.toList k H0 r H1) (λ_ _ _=>False) (ZmS P fn.results.toList k H0 r H1) tm H0):Z2f P gl f args H0 r H1:=by
 intro sn ι W cargs hg hR ha
 rw[Z0m]at h
 refine .inl (Z48 hf hc (Z1s (rd:=none) hrf hm hn hO hcw c h) hg hR ha (λ_ _ _ h=>h) λx tm1 H a1 W1 sn1 ι1 hx s1 t1=>?_)
 have key:ZmS P fn.results.toList k H0 r H1 tm1 H->∃v,(results fn a1.tmps).run P W1 = .ok v W1/\∃sn' ι',VR sn' ι' r v/\Stp sn ι H0 W sn' ι' H1 W1:=by
  intro h
  obtain⟨us,h1,h2,h3,h4⟩:=Z01 h
  simp only[Y01]at h4
  obtain⟨h4,h5⟩:=h4
  obtain⟨vs,k1,k2⟩:=Z1g s1.rel t1 _ _ h1
  obtain⟨ι',g1,g2⟩:=Ze1 hk hR s1 h3 h5
  refine⟨_,Z1W k2,sn1,ι',?_,g1⟩
  rw[<- h2]at h4⊢
  exact g2 _ _ h4 (ZaB (fn:=fn) k1)
 cases x with
 |normal =>
  obtain⟨v,k1,sn',ι',k2,k3⟩:=key hx
  exact⟨v,k1,v,sn',ι',rfl,k2,k3⟩
 |exit id=>exact hx.elim
 |ret =>
  obtain⟨v,k1,sn',ι',k2,k3⟩:=key hx
  exact⟨v,k1,v,sn',ι',rfl,k2,k3⟩
theorem Z6q {P : Program} {gl : Glob} {orc : Orc} (hm : P.follows .mixedOrders = true) (hn : NoNum P) (hO : OrcSound P gl orc) {f k : Nat} {fn : Func} {c : Code} {args : List AV} {H0 H1 : Z00} {r : AV} (hk : H0.length = k)
  (hf:P.funcs[f]? = some fn) (hc:fn.body=some c) {cw:CW} (hcw:ZbN P orc cw)
  (h:Z1p (tmk (Z9i args fn.ntmps args.length) (Z8t 20 fn.ntmps)) λtm=>Z21 P gl orc cw (Zf1 k) c (ZmS P fn.results.toList k H0 r H1) (λ_ _ _=>False) (ZmS P fn.results.toList k H0 r H1) tm H0):Z2f P gl f args H0 r H1 :=
 fn_memR (λ_ _ _ _ _ _ _ _ _ _ _ h=>h.elim) hm hn hO hk hf hc hcw h
section orcI
open Classical
noncomputable def orcI{I:Type}(G:I->Prop)(fF:I->Nat)(fA:I->List AV)(fH:I->Z00)(fR:I->AV)(fO:I->Z00):Orc:=λf args H =>
 if h:∃i,G i/\fF i=f/\fA i=args/\fH i=H then some (fR (Classical.choose h),fO (Classical.choose h)) else none
theorem Z2h{P:Program}{gl:Glob}{I:Type}{G:I->Prop}{fF:I->Nat}{fA:I->List AV}{fH:I->Z00}{fR:I->AV}{fO:I->Z00}(h:∀i,G i->Z2f P gl (fF i) (fA i) (fH i) (fR i) (fO i)):OrcSound P gl (orcI G fF fA fH fR fO):=by
 intro f args H r H' e
 unfold orcI at e
 split at e
 · rename_i hx
   simp only[Option.some.injEq,Prod.mk.injEq]at e
   obtain⟨rfl,rfl⟩:=e
   obtain⟨g1,e1,e2,e3⟩:=Classical.choose_spec hx
   have:=h _ g1
   rw[e1,e2,e3]at this;exact this
 ·cases e
theorem ZeG {P : Program} {I : Type} {G : I -> Prop} {fF : I -> Nat} {fA : I -> List AV} {fH : I -> Z00} {fR : I -> AV} {fO : I -> Z00} (hinj : ∀ i j, G i -> G j -> fF i = fF j -> fA i = fA j -> fH i = fH j -> fR i = fR j /\ fO i = fO j) {g : Nat} {args : List AV} {H : Z00} (hb : Z0b P g = true) (i : I) (hi : G i) (h1 : fF i = g) (h2 : fA i = args) (h3 : fH i = H) :
  Z08 P (orcI G fF fA fH fR fO) H g args=some (fR i,fO i):=by
 have hx:∃i,G i/\fF i=g/\fA i=args/\fH i=H:=⟨i,hi,h1,h2,h3⟩
 unfold Z08
 rw[if_pos hb]
 unfold orcI
 rw[dif_pos hx]
 obtain⟨g1,g2,g3,g4⟩:=Classical.choose_spec hx
 obtain⟨e1,e2⟩:=hinj _ i g1 hi (g2.trans h1.symm) (g3.trans h2.symm) (g4.trans h3.symm)
 rw[e1,e2]
end orcI
end Go.Abs
end

/-
  Texts of this proof, one behind the other (part 4).
-/
import Derived.Test.YtpobjilfhkbhjaaDoorXi3
import Derived.RangeFuncRecord
import Derived.RangeFuncIn
import Derived.ChangeReads
import Derived.ChangeArms
import Derived.Stop.LaidErr
set_option linter.unusedVariables false
set_option linter.unusedSimpArgs false
set_option maxRecDepth 100000
set_option maxHeartbeats 4000000
open Nat renaming beq → Y00,zero_add → Y02,eq_of_beq_eq_true → Y05,blt_eq → Y09,add_zero → Y0c
open Bool renaming and_eq_true → Y01,false_eq_true → Y03,or_eq_true → Y0d,and_self → Y0g,not_eq_true' → Y0i
open List renaming getElem?_eq_some_iff → Y04,mem_cons → Y06,getElem?_eq_getElem → Y07,mem_of_getElem? → Y0a,length_cons → Y0e,append_nil → Y0h,mem_append → Y0j,all_eq_true → Y0k,getElem?_append_left → Y0l,mem_flatMap → Y0m,mem_iff_getElem → Y0n,getElem?_set → Y0o
open Option renaming bind_eq_some_iff → Y08,map_eq_some_iff → Y0b
open Int renaming toNat_natCast → Y0f
open Array renaming getElem?_eq_some_iff → Y0p
section
namespace Go.Abs
open Go.RowKit
def StsRel:List (Nat×TH)->List (Nat×Z00×List Nat)->Prop
 |[],[]=>True
 |(i,B)::l,(j,H,_)::m=>i=j/\Rep B H/\StsRel l m
 |_,_=>False
theorem StsRel.snoc{i:Nat}{B:TH}{H:Z00}{nw:List Nat}(hR:Rep B H):∀{l:List (Nat×TH)}{m:List (Nat×Z00×List Nat)},StsRel l m->StsRel (l++[(i,B)]) (m++[(i,H,nw)])
 |[],[],h=>⟨rfl,hR,trivial⟩
 |(a,b)::l,(c,e,f)::m,h=>⟨h.1,h.2.1,StsRel.snoc hR h.2.2⟩
 |[],_::_,h=>h.elim
 |_::_,[],h=>h.elim
theorem Z5O{P:Program}{gl:Z0n}{orc:Orc}{ops:List Oper}{an:List Nat}{tm:Tr}:∀(l m:List Nat)(s:DSt),Z3L P gl orc ops an tm (l++m) s=(match Z3L P gl orc ops an tm l s with|some s'=>Z3L P gl orc ops an tm m s'|none=>none)
 |[],m,s=>by simp[Z3L]
 |i::l,m,s=>by
  simp only[List.cons_append,Z3L]
  cases Z4r P gl orc ops an tm i s with
  |none=>rfl
  |some s'=>exact Z5O l m s'
theorem Z4q(ops:List Oper):∀(l m:List Nat),Zbt ops (l++m)=Zbt ops l++Zbt ops m
 |[],m=>rfl
 |i::l,m=>by
  simp only[List.cons_append,Zbt]
  rw[Z4q ops l m]
  split
  ·split<;>simp
  ·rfl
theorem ZaB{m:Nat}:∀{l:List Nat},(∀i∈l,bit m i=true)->Z3S m l=true
 |[],h=>rfl
 |i::l,h=>by simp only[Z3S,Y01];exact⟨h i (by simp),ZaB λx hx=>h x (by simp[hx])⟩
section main
variable {P:Program} {gl:Z0n} {d n:Nat} {ops:List Oper} {an:List Nat} {tm:Tr} {forc:Z9B} {orc:Orc} {H0:Z00} {rc:Bool}
theorem Zgm{o:Oper}{tm:Tr}{E:Tre AV d}{q:Tre AV d->AV}{want:Bool}(hE:EnvSim d n E tm)(hg:ZkV d n ops o=some (some (q,want))):Z0x ops o tm=(match q E with | .bool b=>some (b==want)|_=>some false):=by
 unfold ZkV at hg
 unfold Z0x
 split at hg
 ·simp at hg
 · rename_i j w e
   split at hg<;>try (simp at hg;done)
   rename_i g hj
   split at hg<;>try (simp at hg;done)
   rename_i t ht
   obtain⟨h1,h2⟩:=Z05 hg
   have h3:some (some ((Zfo AV d t).v,w))=some (some (q,want)):=h2
   simp at h3
   obtain⟨rfl,rfl⟩:=h3
   have htn:t<n:=by simpa[Y09]using h1
   simp only[e,hj,ht,hE t,if_pos htn,Z5p]
   split<;>simp_all
theorem Zko {o : Oper} {c : Z9B -> Tre AV d -> TH -> AV -> Res -> Res} (hO : Z3T forc orc) (hc : ZmI P gl d n ops o = some c) (hk : kind o = 1) {E : Tre AV d} {B : TH} {H : Z00} {v : AV} {k : Res} {out : AV × TH} {tmj : Tr} (hE : EnvSim d n E tmj) (hR : Rep B H)
  (h:c forc E B v k=some out):k=some out/\(Z0x ops o tmj=some true->Z02 P (Z1C gl tmj) H o=some v):=by
 unfold ZmI at hc
 split at hc
 ·cases hc
 rename_i hodd
 have hodd:ZjB P o=false:=by simpa using hodd
 have run:∀{F:OpF d},cop P gl d n o=some F->(F forc E B λu _=>iff' (ZkM v u) k none)=some out->k=some out/\Z02 P (Z1C gl tmj) H o=some v:=by
  intro F hF h1
  obtain⟨r,T',H',g1,g2,g3⟩:=ZiR hF forc orc E B _ out H hO hR h1
  obtain⟨e1,e2⟩:=Z05 g3
  have:=Zj0 e1;subst this
  rw[Z8R hE]at g1
  exact⟨e2,(Z7s (by omega) hodd g1).1⟩
 split at hc<;>try (simp at hc;done)
 · rename_i F hF hg
   simp at hc;subst hc
   obtain⟨h1,h2⟩:=run hF h
   exact⟨h1,λ_=>h2⟩
 · rename_i F q want hF hg
   simp at hc;subst hc
   have hw:=Zgm hE hg
   rcases Z2c h with ⟨b,e,h1⟩|⟨e,h1⟩
   · rw[e]at hw
     cases b<;>cases want
     ·obtain⟨a,b⟩:=run hF h1;exact⟨a,λ_=>b⟩
     ·exact⟨h1,λhh=>by rw[hw]at hh;simp at hh⟩
     ·exact⟨h1,λhh=>by rw[hw]at hh;simp at hh⟩
     ·obtain⟨a,b⟩:=run hF h1;exact⟨a,λ_=>b⟩
   · refine⟨h1,λhh=>?_⟩
     rw[hw]at hh
     split at hh
     ·rename_i b hb;exact absurd hb (e b)
     ·cases hh
theorem Zbm {o : Oper} {env : List (Nat × AV)} {v : AV} {j aj : Nat} {W : Prop} {chk : TH -> Res -> Res} {out : AV × TH} (hchk : ∀ B H k, Rep B H -> chk B k = some out -> k = some out /\ (W -> Z02 P (Z0L gl env) H o = some v)) {base : TH} {Hb : Z00} (hb : Rep base Hb) {k : Res} :
  ∀{sts:List (Nat×TH)}{l:List (Nat×Z00×List Nat)},StsRel sts l->Zlo an aj j chk base k sts=some out->k=some out/\(W->stages P gl o env v j an aj veq l Hb=true)
 |[],[],hs,h=>by
  obtain⟨h1,h2⟩:=hchk base Hb k hb h
  exact⟨h1,λw=>by simp only[stages,h2 w,Z1u]⟩
 |[],_::_,hs,h=>hs.elim
 |_::_,[],hs,h=>hs.elim
 |(e,B)::sts,(e',H,nw)::l,hs,h=>by
  obtain⟨rfl,hB,hs⟩:=hs
  have h:iff' (bit aj e) (Zlo an aj j chk base k sts) (chk B (iff' (bit (an.getD e 0) j) k (Zlo an aj j chk base k sts)))=some out:=h
  rcases Z0N h with ⟨h1,h2⟩|⟨h1,h2⟩
  · obtain⟨g1,g2⟩:=Zbm hchk hb hs h2
    exact⟨g1,λw=>by simp only[stages,h1,if_true];exact g2 w⟩
  · obtain⟨g1,g2⟩:=hchk B H _ hB h2
    rcases Z0N g1 with ⟨g3,g4⟩|⟨g3,g4⟩
    ·exact⟨g4,λw=>by simp only[stages,h1,Y03,if_false,g2 w,Z1u,g3,Bool.true_or,Y0g]⟩
    · obtain⟨g5,g6⟩:=Zbm hchk hb hs g4
      exact⟨g5,λw=>by simp only[stages,h1,Y03,if_false,g2 w,Z1u,g6 w,Bool.or_true,Y0g]⟩
theorem ZcH (hO : Z3T forc orc) {sts : List (Nat × TH)} {l : List (Nat × Z00 × List Nat)} (hs : StsRel sts l) {base : TH} {Hb : Z00} (hb : Rep base Hb) {k : Res} {out : AV × TH} :
  ∀{recs:List (Rec d)},(∀j Ej v,(j,Ej,v)∈recs->∃o tmj,ops[j]? = some o/\kind o=1/\EnvSim d n Ej tmj)->ZfD P gl d n ops an forc sts base k recs=some out->k=some out/\∀j Ej v,(j,Ej,v)∈recs->∀o tmj env,ops[j]? = some o->kind o=1->EnvSim d n Ej tmj->Z0x ops o tmj=some true ->
   (∀x∈o.op.operands.toList,Z0L gl env x=Z1C gl tmj x)->stages P gl o env v j an (an.getD j 0) veq l Hb=true
 |[],hr,h=>⟨h,by simp⟩
 |(j,E,v)::recs,hr,h=>by
  have h:(Option.rec none (λc=>Zlo an (an.getD j 0) j (λB k=>c forc E B v k) base (ZfD P gl d n ops an forc sts base k recs) sts) (Zie P gl d n ops j):Res)=some out:=h
  cases hc:Zie P gl d n ops j with
  |none=>rw[hc]at h;cases h
  |some c =>
   rw[hc]at h
   unfold Zie at hc
   split at hc<;>try (simp at hc;done)
   rename_i o ho
   obtain⟨o',tm0,ho',hk0,hE0⟩:=hr j E v (by simp)
   have hoo:o=o':=by rw[ho]at ho';simpa using ho'
   subst hoo
   have gen:∀tmj env,EnvSim d n E tmj->ZfD P gl d n ops an forc sts base k recs=some out/\(Z0x ops o tmj=some true/\(∀x∈o.op.operands.toList,Z0L gl env x=Z1C gl tmj x)->stages P gl o env v j an (an.getD j 0) veq l Hb=true):=by
    intro tmj env hE
    refine Zbm (P:=P) (gl:=gl) (o:=o) (env:=env) (v:=v) (W:=Z0x ops o tmj=some true/\∀x∈o.op.operands.toList,Z0L gl env x=Z1C gl tmj x) (λB H k hB hck=>?_) hb hs h
    obtain⟨a,b⟩:=Zko hO hc hk0 hE hB hck
    exact⟨a,λw=>by rw[Z4t w.2];exact b w.1⟩
   obtain⟨h1,_⟩:=gen tm0 [] hE0
   obtain⟨h2,h3⟩:=ZcH hO hs hb (λj Ej v hm=>hr j Ej v (by simp[hm])) h1
   refine⟨h2,λj' Ej v' hm o' tmj env ho2 hk2 hE2 hw hx=>?_⟩
   rcases Y06.1 hm with heq|hm
   · simp only[Prod.mk.injEq]at heq
     obtain⟨rfl,rfl,rfl⟩:=heq
     have:o'=o:=by rw[ho]at ho2;simpa using ho2.symm
     subst this
     exact (gen tmj env hE2).2 ⟨hw,hx⟩
   ·exact h3 j' Ej v' hm o' tmj env ho2 hk2 hE2 hw hx
theorem Z6z {s : DSt} : ∀ (l : List Oper) (j : Nat), (∀ k o, l[k]? = some o -> kind o = 1 -> ∃ env v, Z1r tm s.vals ops (bit (an.getD (j + k) 0)) (looks ops o) = some env /\ s.vals[j + k]? = some (some v) /\
  (Z0a ops env o=true->stages P gl o env v (j+k) an (an.getD (j+k) 0) veq s.sts s.base=true))->Z1a P gl tm ops an s l j=true
 |[],j,h=>rfl
 |o::l,j,h=>by
  simp only[Z1a,Y01]
  refine⟨?_,Z6z l (j+1) λk x hx hk=>?_⟩
  · split
    · rename_i hk
      obtain⟨env,v,h1,h2,h3⟩:=h 0 o rfl (Y05 hk)
      simp only[Y0c]at h1 h2 h3
      simp only[h1,h2]
      split
      ·rename_i hw;rw[h3 hw];rfl
      ·rfl
    ·rfl
  · obtain⟨env,v,h1,h2,h3⟩:=h (k+1) x (by simpa using hx) hk
    rw[show j+(k+1)=j+1+k from by omega]at h1 h2 h3
    exact⟨env,v,h1,h2,h3⟩
structure DInv (P:Program) (gl:Z0n) (orc:Orc) (d n:Nat) (ops:List Oper) (tm:Tr) (H0:Z00) (rc:Bool) (l1 pend:List Nat) (E:Tre AV d) (T B:TH) (sts:List (Nat×TH)) (recs:List (Rec d)) (s:DSt) (tmc:Tr):Prop where
 run:Z3L P gl orc ops (Z0T ops []) tm l1 ⟨Z14 ops,0,H0,[],H0,[]⟩=some s
 v:VInv ops (Z0T ops []) tm s.vals s.done tmc
 env:EnvSim d n E tmc
 heap:Rep T s.heap
 base:Rep B s.base
 sts:StsRel sts s.sts
 new:∀k∈s.new,k∈pend
 effs:Z0d s.sts=Zbt ops l1
 noeff:rc=false->s.heap=H0/\s.base=H0/\s.sts=[]
 recOk:∀j Ej v,(j,Ej,v)∈recs->∃o tmj,ops[j]? = some o/\kind o=1/\EnvSim d n Ej tmj
 loads:∀j o,bit s.done j=true->ops[j]? = some o->kind o=1->∃env v,Z1r tm s.vals ops (bit ((Z0T ops []).getD j 0)) (looks ops o)=some env/\s.vals[j]? = some (some v) /\
  (Z0a ops env o=true->(rc=true/\∃Ej tmj,(j,Ej,v)∈recs/\EnvSim d n Ej tmj/\Z0x ops o tmj=some true/\∀x∈o.op.operands.toList,Z0L gl env x=Z1C gl tmj x)\/(rc=false/\Z02 P (Z0L gl env) H0 o=some v))
theorem Zkg (hO : Z3T forc orc) (hst : dOK n ops (Z0T ops []) = true) {E0 : Tre AV d} (hE0 : EnvSim d n E0 tm) {pend : List Nat} {E : Tre AV d} {T B : TH} {sts : List (Nat × TH)} {recs : List (Rec d)} {s : DSt} {tmc : Tr} (h : DInv P gl orc d n ops tm H0 rc (Z6N ops (Z0T ops [])) pend E T B sts recs s tmc) (hdone : Y00 (s.done + 1) (2 ^ ops.length) = true)
  {k:Res} {out:AV×TH} (hc:ZfD P gl d n ops (Z0T ops []) forc sts B k recs=some out):(∃tm',Z61 P gl orc ops tm H0=some (tm',s.heap)/\EnvSim d n E tm')/\k=some out:=by
 obtain⟨h1,h2⟩:=ZcH hO h.sts h.base h.recOk hc
 refine⟨?_,h1⟩
 unfold dOK at hst
 obtain⟨s1,hst⟩:=Z0K hst
 obtain⟨s2,hst⟩:=Z0K hst
 obtain⟨s3,hst⟩:=Z0K hst
 obtain⟨s4,s5⟩:=Z0K hst
 have hall:∀k,k<ops.length->bit s.done k=true:=λk hk=>by
  have e:=Y05 hdone
  rw[ZcS e];simpa using hk
 have hchain:Z3N (Z0T ops []) (Z0d s.sts)=true:=by rw[h.effs];exact s4
 have hstg:Z1a P gl tm ops (Z0T ops []) s ops 0=true:=by
  refine Z6z ops 0 λj o ho hk=>?_
  rw[Y02]
  obtain⟨env,v,g1,g2,g3⟩:=h.loads j o (hall j (Y04.1 ho).1) ho hk
  refine⟨env,v,g1,g2,λhw=>?_⟩
  rcases g3 hw with ⟨_,Ej,tmj,g4,g5,g6,g7⟩|⟨g4,g5⟩
  ·exact h2 j Ej v g4 o tmj env ho hk g5 g6 g7
  · obtain⟨e1,e2,e3⟩:=h.noeff g4
    rw[e2,e3]
    simp only[stages,g5,Z1u]
 obtain⟨tm',hfin⟩:=Z3I (vals:=s.vals) ops 0 tm (λk hk=>by rw[Y02];exact h.v.known k (hall k hk)) (λo ho dd hd=>by
  obtain⟨k,hk,hko⟩:=Y0n.1 ho
  obtain⟨x,hx⟩:=h.v.dst k o dd (hall k hk) (by rw[<- hko];exact Y07 hk) hd
  rw[h.env dd]at hx
  split at hx
  ·rename_i hlt;exact Z68 _ _ _ (by rw[hE0 dd,if_pos hlt])
  ·cases hx)
 refine⟨tm',?_,?_⟩
 · unfold Z61
   simp only[s1,s2,Y0g,if_true,h.run,hchain,hdone,hstg,hfin]
 · intro t
   rw[(Z2w ops 0 tm tm' hfin).2 t _ rfl,<- h.env t,<- h.v.cur t]
   exact Z18 ops 0 _ λk o hk _=>by
    rw[Y02]
    exact (hall k (Y04.1 hk).1).symm
theorem DInv.step {l1 pend : List Nat} {i : Nat} {E : Tre AV d} {T B : TH} {sts : List (Nat × TH)} {recs : List (Rec d)} {s : DSt} {tmc : Tr} (h : DInv P gl orc d n ops tm H0 rc l1 pend E T B sts recs s tmc) {o : Oper} (ho : ops[i]? = some o) {env : List (Nat × AV)}
  (hi:bit s.done i=false) (han:∀k,bit ((Z0T ops []).getD i 0) k=true->bit s.done k=true) (hb:(Z0T ops []).getD i 0<2 ^ i) (htm:Z0P ops (Z0T ops []) i o=true)
  (henv:Z1r tm s.vals ops (bit ((Z0T ops []).getD i 0)) (looks ops o)=some env) {r:AV} {tm1:Tr} (hp:Z3r o.dst r tmc=some tm1) {E1:Tre AV d} (hE1:EnvSim d n E1 tm1) {base heap:Z00} {new:List Nat} {st:List (Nat×Z00×List Nat)}
  (hd:Z4r P gl orc ops (Z0T ops []) tm i s=some ⟨s.vals.set i (some r),Nat.lor s.done (2 ^ i),base,new,heap,st⟩) {pend1:List Nat} {T1 B1:TH} {sts1:List (Nat×TH)} {recs1:List (Rec d)} (hT:Rep T1 heap) (hB:Rep B1 base) (hs:StsRel sts1 st)
  (hn:∀k∈new,k∈pend1) (he:Z0d st=Zbt ops (l1++[i])) (hne:rc=false->heap=H0/\base=H0/\st=[]) (hr1:∀x∈recs,x∈recs1) (hr2:∀j Ej v,(j,Ej,v)∈recs1->∃o tmj,ops[j]? = some o/\kind o=1/\EnvSim d n Ej tmj)
  (hl:kind o=1->Z0a ops env o=true->(rc=true/\∃Ej tmj,(i,Ej,r)∈recs1/\EnvSim d n Ej tmj/\Z0x ops o tmj=some true/\∀x∈o.op.operands.toList,Z0L gl env x=Z1C gl tmj x)\/(rc=false/\Z02 P (Z0L gl env) H0 o=some r)) :
  DInv P gl orc d n ops tm H0 rc (l1++[i]) pend1 E1 T1 B1 sts1 recs1 ⟨s.vals.set i (some r),Nat.lor s.done (2 ^ i),base,new,heap,st⟩ tm1:=by
 have hle:=h.v.vle hi r
 refine⟨?_,h.v.next ho hp hi han hb htm,hE1,hT,hB,hs,hn,he,hne,hr2,?_⟩
 · rw[Z5O,h.run]
   simp only[Z3L,hd]
 · intro j x hj hx hk
   rw[Z45,Y0d]at hj
   by_cases e:j=i
   · subst e
     have:x=o:=by rw[ho]at hx;simpa using hx.symm
     subst this
     exact⟨env,r,Z1J hle _ _ henv,by rw[Y0o,if_pos rfl,if_pos (by rw[h.v.vlen];exact (Y04.1 ho).1)],hl hk⟩
   · have hj' : bit s.done j = true := by
      rcases hj with hj|hj
      ·exact hj
      ·exact absurd (Y05 hj) e
     obtain⟨env',v,g1,g2,g3⟩:=h.loads j x hj' hx hk
     refine⟨env',v,Z1J hle _ _ g1,by rw[Y0o,if_neg (Ne.symm e)];exact g2,λhw=>?_⟩
     rcases g3 hw with ⟨a,Ej,tmj,b,c⟩|g
     ·exact .inl ⟨a,Ej,tmj,hr1 _ b,c⟩
     ·exact .inr g
theorem Zgl:∀{l:List Nat}{G:Tre AV d->List AV},clk gl d n l=some G->∀E t,t∈l->Z2m d t E∈G E
 |[],G,h,E,t,ht=>by simp at ht
 |s::l,G,h,E,t,ht=>by
  simp only[clk]at h
  split at h<;>simp at h
  rename_i g G' hg hG
  subst h
  rcases Y06.1 ht with rfl|ht
  · unfold Z0H at hg
    obtain⟨_,h2⟩:=Z05 (show iff' (Nat.blt t n) (Bx.rec (λg=>some g) (Zfo AV d t)) none=some g from hg)
    have h3:some (Zfo AV d t).v=some g:=h2
    simp at h3;subst h3
    rw[<- Z5p];simp
  ·exact List.mem_cons_of_mem _ (Zgl hG E t ht)
theorem Zif{o:Oper}{g:Tre AV d->AV}(hg:ZkW gl d n o=some g){r:AV}{tmc tm1:Tr}(hp:Z3r o.dst r tmc=some tm1){E1:Tre AV d}(hE1:EnvSim d n E1 tm1):g E1=r:=by
 unfold ZkW at hg
 cases hd:o.dst with
 |none=>rw[hd]at hg;simp at hg
 |some t =>
  rw[hd]at hg
  simp only at hg
  unfold Z0H at hg
  obtain⟨h1,h2⟩:=Z05 (show iff' (Nat.blt t n) (Bx.rec (λg=>some g) (Zfo AV d t)) none=some g from hg)
  have h3:some (Zfo AV d t).v=some g:=h2
  simp at h3;subst h3
  have ht:t<n:=by simpa[Y09]using h1
  rw[Z5p]
  have h4:=Z8U (o:=o) hd (by rw[hd]at hp;exact hp) t
  rw[hE1 t,if_pos ht]at h4
  simpa[Z2g,hd]using h4
theorem Z3K (hn : n <= 8 ^ d) (hO : Z3T forc orc) (hodd : Zdp P ops = true) (hst : dOK n ops (Z0T ops []) = true) (hrc : rc = Z77 ops) {E0 : Tre AV d} (hE0 : EnvSim d n E0 tm) : ∀ (l l1 pend : List Nat) (E : Tre AV d) (T B : TH) (sts : List (Nat × TH)) (recs : List (Rec d)) (k : Tre AV d -> TH -> Res) (out : AV × TH) (s : DSt) (tmc : Tr),
  l1++l=Z6N ops (Z0T ops [])->sOK ops (Z0T ops []) l s.done pend=true ->
  DInv P gl orc d n ops tm H0 rc l1 pend E T B sts recs s tmc->ZaU P gl d n ops (Z0T ops []) rc forc l E T B sts recs k=some out->∃E' T' tm' H',Z61 P gl orc ops tm H0=some (tm',H')/\EnvSim d n E' tm'/\Rep T' H'/\k E' T'=some out
 |[],l1,pend,E,T,B,sts,recs,k,out,s,tmc,hd,hs,h,hc=>by
  rw[Y0h]at hd
  subst hd
  obtain⟨⟨tm',h1,h3⟩,h2⟩:=Zkg hO hst hE0 h hs hc
  exact⟨E,T,tm',s.heap,h1,h3,h.heap,h2⟩
 |i::l,l1,pend,E,T,B,sts,recs,k,out,s,tmc,hd,hs,h,hc=>by
  have hd1:(l1++[i])++l=Z6N ops (Z0T ops []):=by rw[<- hd];simp
  simp only[sOK]at hs
  split at hs
  ·cases hs
  rename_i o ho
  have hil:i<ops.length:=(Y04.1 ho).1
  simp only[Y01,Y0i]at hs
  obtain⟨⟨hnd,hland⟩,hs⟩:=hs
  have han:=Zcx hland
  have hst':=hst
  unfold dOK at hst'
  obtain⟨s1,hst'⟩:=Z0K hst'
  obtain⟨s2,hst'⟩:=Z0K hst'
  obtain⟨s3,hst'⟩:=Z0K hst'
  obtain⟨s4,s5⟩:=Z0K hst'
  have hlt:∀t∈looks ops o,t<n:=Z48 (Z5a s5 o (Y0a ho))
  have htm:=Z34 ops 0 i o s1 ho
  rw[Y02]at htm
  have hb:(Z0T ops []).getD i 0<2 ^ i:=by
   have:=Z1X (Z0T ops []) 0 i s2 (by rw[Z30];exact hil)
   rwa [Y02]at this
  obtain⟨env,henv,hlk,hvl⟩:=Zia htm hlt h.v h.env hnd han
  have hρ:=ZdH (gl:=gl) hlk h.env hlt
  have hc:(Option.rec (λ_ _ _ _ _ _=>none) (λo=>Zlv P gl d n ops rc forc i o (ZaU P gl d n ops (Z0T ops []) rc forc l)) (ops[i]?):ZlM d) E T B sts recs k=some out:=hc
  rw[ho]at hc
  have hc:(Option.rec none (λs=>Znf (kind o)
   (s forc E T λE' T'=>ZaU P gl d n ops (Z0T ops []) rc forc l E' T' B sts recs k)
   (iff' rc (Option.rec none (λg=>s forc E T λE' T'=>frc1 (g E') λv=>ZaU P gl d n ops (Z0T ops []) rc forc l E' T' B sts ((i,E,v)::recs) k) (ZkW gl d n o)) (s forc E T λE' T'=>ZaU P gl d n ops (Z0T ops []) rc forc l E' T' B sts recs k))
   (s forc E T λE' T'=>iff' (iff' (Y00 T'.sz T.sz) true (ltO T.sz (T'.get T.sz))) (ZaU P gl d n ops (Z0T ops []) rc forc l E' T' B sts recs k) none)
   (Option.rec none (λL=>iff' (ltL T.sz (L E)) (s forc E T λE' T'=>iff' (Nat.ble T.sz T'.sz) (ZaU P gl d n ops (Z0T ops []) rc forc l E' T' T' (Zgz sts [(i,B)]) recs k) none) none) (clk gl d n (looks ops o))))
   (Zas P gl d n ops o):Res)=some out:=hc
  cases hcs:Zas P gl d n ops o with
  |none=>rw[hcs]at hc;cases hc
  |some stp =>
  rw[hcs]at hc
  have hstep:=ZcP hn hcs
  have heff:kind o≠3->Z0d s.sts=Zbt ops (l1++[i]):=by
   intro hk
   rw[h.effs,Z4q]
   have:Y00 (kind o) 3=false:=by cases hq:Y00 (kind o) 3 with|false=>rfl|true=>exact absurd (Y05 hq) hk
   simp[Zbt,ho,this]
  have low : ∀ (K : Tre AV d -> TH -> Res), kind o < 2 -> stp forc E T K = some out ->
    ∃E' T' tm1 r,EnvSim d n E' tm1/\Rep T' s.heap/\K E' T'=some out/\Z3r o.dst r tmc=some tm1/\∀recs1:List (Rec d),(∀x∈recs,x∈recs1)->(∀j Ej v,(j,Ej,v)∈recs1->∃o tmj,ops[j]? = some o/\kind o=1/\EnvSim d n Ej tmj) ->
     (kind o = 1 -> Z0a ops env o = true -> Z0x ops o tmc = some true -> Z02 P (Z0L gl env) s.heap o = some r ->
       (rc=true/\∃Ej tmj,(i,Ej,r)∈recs1/\EnvSim d n Ej tmj/\Z0x ops o tmj=some true/\∀x∈o.op.operands.toList,Z0L gl env x=Z1C gl tmj x)\/(rc=false/\Z02 P (Z0L gl env) H0 o=some r)) ->
     ∀pend1:List Nat,(∀x∈pend,x∈pend1)->DInv P gl orc d n ops tm H0 rc (l1++[i]) pend1 E' T' B sts recs1 ⟨s.vals.set i (some r),Nat.lor s.done (2 ^ i),s.base,s.new,s.heap,s.sts⟩ tm1:=by
   intro K hk hh
   obtain⟨E1,T1,tm1,H1,g1,g2,g3,g4⟩:=hstep forc orc E T K out s.heap tmc hO h.heap h.env hh
   rcases g4 with ⟨w1,r,w2,w3⟩|⟨w1,w2,rfl⟩
   · obtain⟨a1,rfl⟩:=Z7s hk (Z89 hodd o (Y0a ho)) w2
     have hw:=Z1F hlk h.env hlt w1
     have a2:Z02 P (Z0L gl env) s.heap o=some r:=by rw[Z4t hρ];exact a1
     refine⟨E1,T1,tm1,r,g1,g2,g3,w3,λrecs1 hr1 hr2 hld pend1 hpd=>?_⟩
     refine h.step ho hnd han hb htm henv w3 g1 ?_ g2 h.base h.sts (λk hk=>hpd k (h.new k hk)) (heff (by omega)) h.noeff hr1 hr2 (λhk1 hw1=>hld hk1 hw1 w1 a2)
     unfold Z4r
     simp only[ho,henv,hnd,Y03,if_false]
     split
     ·omega
     ·omega
     ·simp only[hw,if_true,a2,Z1y]
   · have hw:=Z1F hlk h.env hlt w1
     refine⟨E1,T1,tm1,.tuple [],g1,g2,g3,w2,λrecs1 hr1 hr2 _ pend1 hpd=>?_⟩
     refine h.step ho hnd han hb htm henv w2 g1 ?_ g2 h.base h.sts (λk hk=>hpd k (h.new k hk)) (heff (by omega)) h.noeff hr1 hr2 (λ_ hw1=>by rw[hw]at hw1;cases hw1)
     unfold Z4r
     simp only[ho,henv,hnd,Y03,if_false]
     split
     ·omega
     ·omega
     ·simp only[hw,Y03,if_false]
  rcases Z8e o with hk|hk|hk|hk
  · rw[hk]at hc hs
    replace hc:stp forc E T (λE' T'=>ZaU P gl d n ops (Z0T ops []) rc forc l E' T' B sts recs k)=some out:=hc
    obtain⟨E1,T1,tm1,r,g1,g2,g3,g4,g5⟩:=low _ (by omega) hc
    exact Z3K hn hO hodd hst hrc hE0 l _ pend E1 T1 B sts recs k out _ tm1 hd1 hs (g5 recs (λ_ h=>h) h.recOk (λhk1=>by omega) pend λ_ h=>h) g3
  · rw[hk]at hc hs
    replace hc:iff' rc (Option.rec none (λg=>stp forc E T λE' T'=>frc1 (g E') λv=>ZaU P gl d n ops (Z0T ops []) rc forc l E' T' B sts ((i,E,v)::recs) k) (ZkW gl d n o)) (stp forc E T λE' T'=>ZaU P gl d n ops (Z0T ops []) rc forc l E' T' B sts recs k)=some out:=hc
    rcases Z0N hc with ⟨hr,hc2⟩|⟨hr,hc2⟩
    · cases hcd:ZkW gl d n o with
      |none=>rw[hcd]at hc2;cases hc2
      |some g =>
       rw[hcd]at hc2
       replace hc2:stp forc E T (λE' T'=>frc1 (g E') λv=>ZaU P gl d n ops (Z0T ops []) rc forc l E' T' B sts ((i,E,v)::recs) k)=some out:=hc2
       obtain⟨E1,T1,tm1,r,g1,g2,g3,g4,g5⟩:=low _ (by omega) hc2
       have e1:g E1=r:=Zif hcd g4 g1
       rw[Z0r,e1]at g3
       refine Z3K hn hO hodd hst hrc hE0 l _ pend E1 T1 B sts ((i,E,r)::recs) k out _ tm1 hd1 hs (g5 ((i,E,r)::recs) (λx hx=>by simp[hx]) ?_ (λ_ _ hw a=>.inl ⟨hr,E,tmc,by simp,h.env,hw,hρ⟩) pend λ_ h=>h) g3
       intro j Ej v hm
       rcases Y06.1 hm with heq|hm
       ·simp only[Prod.mk.injEq]at heq;obtain⟨rfl,rfl,rfl⟩:=heq;exact⟨o,tmc,ho,hk,h.env⟩
       ·exact h.recOk j Ej v hm
    · obtain⟨E1,T1,tm1,r,g1,g2,g3,g4,g5⟩:=low _ (by omega) hc2
      refine Z3K hn hO hodd hst hrc hE0 l _ pend E1 T1 B sts recs k out _ tm1 hd1 hs (g5 recs (λ_ h=>h) h.recOk (λ_ _ _ a=>.inr ⟨hr,?_⟩) pend λ_ h=>h) g3
      rw[(h.noeff hr).1]at a;exact a
  · have hne : rc = false -> False := fun e => by
     rw[hrc]at e
     have:=Z4m e o (Y0a ho)
     omega
    rw[hk]at hc hs
    replace hc:stp forc E T (λE' T'=>iff' (iff' (Y00 T'.sz T.sz) true (ltO T.sz (T'.get T.sz))) (ZaU P gl d n ops (Z0T ops []) rc forc l E' T' B sts recs k) none)=some out:=hc
    obtain⟨E1,T1,tm1,H1,g1,g2,g3,g4⟩:=hstep forc orc E T _ out s.heap tmc hO h.heap h.env hc
    obtain⟨q1,q2⟩:=Z05 g3
    rcases g4 with ⟨w1,r,w2,w3⟩|⟨w1,w2,rfl⟩
    · obtain⟨mk,body,a1,rfl,rfl⟩:=ZbE hk w2
      have hw:=Z1F hlk h.env hlt w1
      have a2:Z0v P (Z0L gl env) o=some (mk,body):=by rw[Z9s hρ];exact a1
      have hsz:T1.sz=T.sz+1:=by rw[g2.sz,h.heap.sz];simp
      have hq:Y00 T1.sz T.sz=false:=by cases hq:Y00 T1.sz T.sz with|false=>rfl|true=>have:=Y05 hq;omega
      rw[hq]at q1
      obtain⟨l1,l2⟩:=ZhF (show ltO T.sz (T1.get T.sz)=true from q1)
      have hob:=g2.obj T.sz l1
      rw[h.heap.sz,List.getElem?_append_right (Nat.le_refl _)]at hob
      simp at hob
      rw[h.heap.sz,<- hob]at l2
      refine Z3K hn hO hodd hst hrc hE0 l _ (pend++[i]) E1 T1 B sts recs k out _ tm1 hd1 hs (h.step ho hnd han hb htm henv w3 g1 ?_ g2 h.base h.sts (new:=s.new++[i]) ?_ (heff (by omega)) (λe=>(hne e).elim) (λ_ h=>h) h.recOk (λhk1=>by omega)) q2
      · unfold Z4r
        simp only[ho,henv,hnd,Y03,if_false,hk,hw,if_true,a2]
        rw[if_pos l2,Z1y]
      · intro k hkm
        rcases Y0j.1 hkm with hkm|hkm
        ·exact List.mem_append_left _ (h.new k hkm)
        ·exact List.mem_append_right _ hkm
    · have hw:=Z1F hlk h.env hlt w1
      refine Z3K hn hO hodd hst hrc hE0 l _ (pend++[i]) E1 T1 B sts recs k out _ tm1 hd1 hs (h.step ho hnd han hb htm henv w2 g1 ?_ g2 h.base h.sts (λk hk=>List.mem_append_left _ (h.new k hk)) (heff (by omega)) (λe=>(hne e).elim) (λ_ h=>h) h.recOk (λhk1=>by omega)) q2
      unfold Z4r
      simp only[ho,henv,hnd,Y03,if_false,hk,hw]
  · have hne : rc = false -> False := fun e => by
     rw[hrc]at e
     have:=Z4m e o (Y0a ho)
     omega
    rw[hk]at hc hs
    simp only[Y01]at hs
    obtain⟨hpend,hs⟩:=hs
    cases hcl:clk gl d n (looks ops o) with
    |none=>rw[hcl]at hc;cases hc
    |some L =>
    rw[hcl]at hc
    replace hc:iff' (ltL T.sz (L E)) (stp forc E T λE' T'=>iff' (Nat.ble T.sz T'.sz) (ZaU P gl d n ops (Z0T ops []) rc forc l E' T' T' (Zgz sts [(i,B)]) recs k) none) none=some out:=hc
    obtain⟨c1,c2⟩:=Z05 hc
    obtain⟨E1,T1,tm1,H1,g1,g2,g3,g4⟩:=hstep forc orc E T _ out s.heap tmc hO h.heap h.env c2
    obtain⟨q1,q2⟩:=Z05 g3
    rw[Z5u]at q2
    have hrefs:Z0G s.heap.length (Z0R env [])=true:=Z9p (Z80 (λt v hm=>by
     obtain⟨t',h1,h2⟩:=hvl t v hm
     subst h2
     rw[<- h.heap.sz];exact Zfb c1 _ (Zgl hcl E t' h1)) [] (by simp))
    have hbits:Z3S ((Z0T ops []).getD i 0) s.new=true:=ZaB λk hkm=>Z3f hpend k (h.new k hkm)
    have hgate:(Z3S ((Z0T ops []).getD i 0) s.new&&Z0G s.heap.length (Z0R env []))=true:=by rw[hrefs,hbits];rfl
    have heff3:Z0d (s.sts++[(i,s.base,s.new)])=Zbt ops (l1++[i]):=by
     rw[Z2q,h.effs,Z4q]
     simp[Zbt,ho,hk]
    rcases g4 with ⟨w1,r,w2,w3⟩|⟨w1,w2,rfl⟩
    · have hw:=Z1F hlk h.env hlt w1
      have a2:aop P orc (Z0L gl env) o s.heap=some (r,H1):=by rw[ZgD hρ];exact w2
      have hle:Nat.ble s.heap.length H1.length=true:=by rw[<- h.heap.sz,<- g2.sz];exact q1
      refine Z3K hn hO hodd hst hrc hE0 l _ [] E1 T1 T1 _ recs k out _ tm1 hd1 hs (h.step ho hnd han hb htm henv w3 g1 ?_ g2 g2 (StsRel.snoc h.base h.sts) (new:=[]) (by simp) heff3 (λe=>(hne e).elim) (λ_ h=>h) h.recOk (λhk1=>by omega)) q2
      unfold Z4r
      simp only[ho,henv,hnd,Y03,if_false,hk,hgate,hw,if_true,a2,Z1y,hle]
    · have hw:=Z1F hlk h.env hlt w1
      refine Z3K hn hO hodd hst hrc hE0 l _ [] E1 T1 T1 _ recs k out _ tm1 hd1 hs (h.step ho hnd han hb htm henv w2 g1 ?_ g2 g2 (StsRel.snoc h.base h.sts) (new:=[]) (by simp) heff3 (λe=>(hne e).elim) (λ_ h=>h) h.recOk (λhk1=>by omega)) q2
      unfold Z4r
      simp only[ho,henv,hnd,Y03,if_false,hk,hgate,hw,if_true]
theorem Zi4 (hn : n <= 8 ^ d) (hO : Z3T forc orc) {E : Tre AV d} {T : TH} {k : Tre AV d -> TH -> Res} {out : AV × TH} {H : Z00} (hR : Rep T H) (hE : EnvSim d n E tm) (h : Zk9 P gl d n ops forc E T k = some out) :
  ∃E' T' tm' H',Z61 P gl orc ops tm H=some (tm',H')/\EnvSim d n E' tm'/\Rep T' H'/\k E' T'=some out:=by
 obtain⟨hodd,h⟩:=Z05 (show iff' (Zdp P ops) (iff' (dOK n ops (Z0T ops [])) (ZaU P gl d n ops (Z0T ops []) (Z77 ops) forc (Z6N ops (Z0T ops [])) E T T [] [] k) none) none=some out from h)
 obtain⟨hst,h2⟩:=Z05 (show iff' (dOK n ops (Z0T ops [])) (ZaU P gl d n ops (Z0T ops []) (Z77 ops) forc (Z6N ops (Z0T ops [])) E T T [] [] k) none=some out from h)
 have hst':=hst
 unfold dOK at hst'
 obtain⟨s1,hst'⟩:=Z0K hst'
 obtain⟨s2,hst'⟩:=Z0K hst'
 obtain⟨s3,hst'⟩:=Z0K hst'
 refine Z3K hn hO hodd hst rfl hE (Z6N ops (Z0T ops [])) [] [] E T T [] [] k out ⟨Z14 ops,0,H,[],H,[]⟩ tm rfl s3 ⟨rfl,VInv.start ops _ tm,hE,hR,hR,trivial,by simp,by simp[Z0d,Zbt],λ_=>⟨rfl,rfl,rfl⟩,by simp,λj o hj=>(by rw[Z1i]at hj;cases hj)⟩ h2
end main
end Go.Abs
end
section
namespace Go.Abs
open Go.RowKit
section code
variable (P:Program) (gl:Z0n) (d n fuel:Nat)
noncomputable def ZfB(forc:Z9B)(c:Code):(Tre AV d->TH->Res)->(Nat->Tre AV d->TH->Res)->(Tre AV d->TH->Res)->Tre AV d->TH->Res :=
 Code.rec (motive:=λ_=>(Tre AV d->TH->Res)->(Nat->Tre AV d->TH->Res)->(Tre AV d->TH->Res)->Tre AV d->TH->Res)
  (λkn _ _ E T=>kn E T)
  (λ_ ops draw kn _ _ E T=>iff' draw (Zk9 P gl d n ops.toList forc E T kn) (ZlW P gl d n ops.toList forc ops.toList E T kn))
  (λ_ _ iha ihb kn kx kr E T=>iha (λE T=>ihb kn kx kr E T) kx kr E T)
  (λx _ _ iha ihb kn kx kr E T=>Option.rec none (λg=>Z2t (g E) (λv=>iff' v (iha kn kx kr E T) (ihb kn kx kr E T)) none) (Z0H gl d n x))
  (λid _ ih kn kx kr E T=>ih kn (λid' E T=>iff' (Y00 id' id) (kn E T) (kx id' E T)) kr E T)
  (λ_ ih kn kx kr E T=>Nat.rec (motive:=λ_=>Tre AV d->TH->Res) (λ_ _=>none) (λ_ again E T=>ih again kx kr E T) fuel E T)
  (λ_ _ _ _ _ _ _ _ _ _ _=>none)
  (λid _ kx _ E T=>kx id E T)
  (λ_ ih kn kx kr E T=>ih kn kx kr E T)
  (λ_ kn _ _ E T=>kn E T)
  (λ_ _ _ _ _ _=>none)
  (λ_ _ kr E T=>kr E T)
  (λ_ _ _ _ _ _=>none) c
noncomputable def Zkj:List ResultVar->Option (Tre AV d->TH->(List AV->Res)->Res)
 |[]=>some λ_ _ f=>f []
 | .tmp t::l=>match Z0H gl d n (.tmp t),Zkj l with|some g,some G=>some λE T f=>frc1 (g E) λv=>G E T λvs=>f (v::vs)|_,_=>none
 | .cell a t::l=>match Z0H gl d n (.tmp a),Zkj l,Z4d P t,tsz P t with
  |some g,some G,some false,_=>some λE T f=>onPtr (g E) (λb off=>Z17 (T.get b) (λ_ _ cs _=>ZiK cs off (λv=>G E T λvs=>f (v::vs)) none) none) (λ_=>none) none
  |some g,some G,some true,some m=>some λE T f=>onPtr (g E) (λb off=>Z17 (T.get b) (λ_ _ cs _=>tkR m (Z7K cs off) (λv=>G E T λvs=>f (.agg v::vs)) none) none) (λ_=>none) none
  |_,_,_,_=>none
noncomputable def ZlQ(l:List AV):AV:=List.rec (.tuple []) (λv m _=>List.rec v (λ_ _ _=>.tuple l) m) l
noncomputable def Zf0(d n:Nat)(args:List AV):Nat->Tre AV d->(Tre AV d->Res)->Res :=
 List.rec (motive:=λ_=>Nat->Tre AV d->(Tre AV d->Res)->Res) (λ_ E f=>f E) (λv _ ih i E f=>iff' (Nat.blt i n) (Bx.rec (λp=>frc1 v λv=>p v E λE'=>ih (Nat.succ i) E' f) (Zjq AV Res d i)) none) args
noncomputable def ZmD(n:Nat):Nat:=iff' (Nat.ble n 8) 1 (iff' (Nat.ble n 64) 2 (iff' (Nat.ble n 512) 3 4))
noncomputable def ZfC(P:Program)(gl:Z0n)(fuel:Nat)(f:Nat):Option (Z9B->List AV->TH->Res) :=
 match P.funcs[f]? with
 |some fn=>match fn.body with
  |some c=>Z0Y fn.ntmps λn=>Z0Y (ZmD n) λd=>iff' (Nat.ble n (8 ^ d)) (iff' (Nat.ble n 4096) (match Zkj P gl d n fn.results.toList with
   |some G=>some λforc args T=>Zf0 d n args 0 (Z1o (.tuple []) d) λE=>ZfB P gl d n fuel forc c (λE T=>G E T λvs=>some (ZlQ vs,T)) (λ_ _ _=>none) (λE T=>G E T λvs=>some (ZlQ vs,T)) E T
   |none=>none) none) none
  |none=>none
 |none=>none
noncomputable def Zlp(P:Program)(gl:Z0n)(tbl:List (Nat×List AV))(fuel n:Nat):Z9B :=
 Nat.rec (motive:=λ_=>Z9B) (λ_ _ _=>none) (λ_ ih f args T=>iff' (ZkQ f args tbl) (some (.bool true,T)) (Option.rec none (λrun=>run ih args T) (ZfC P gl fuel f))) n
end code
section ok
variable {P:Program} {gl:Z0n} {d n fuel:Nat} {forc:Z9B} {orc:Orc}
def Zng{d:Nat}(x:AEx)(kn:Tre AV d->TH->Res)(kx:Nat->Tre AV d->TH->Res)(kr:Tre AV d->TH->Res)(E:Tre AV d)(T:TH):Res:=match x with
 | .normal=>kn E T
 | .exit id=>kx id E T
 | .ret=>kr E T
def ZiV(P:Program)(gl:Z0n)(d n fuel:Nat)(orc:Orc)(c:Code)(F:(Tre AV d->TH->Res)->(Nat->Tre AV d->TH->Res)->(Tre AV d->TH->Res)->Tre AV d->TH->Res):Prop :=
 ∀kn kx kr E T out H tm,Rep T H->EnvSim d n E tm->F kn kx kr E T=some out->∃x E' T' tm' H',Z0A P gl orc fuel c tm H=some (x,tm',H')/\EnvSim d n E' tm'/\Rep T' H'/\Zng x kn kx kr E' T'=some out
theorem Zcv {b : Code} {F : (Tre AV d -> TH -> Res) -> (Nat -> Tre AV d -> TH -> Res) -> (Tre AV d -> TH -> Res) -> Tre AV d -> TH -> Res} (hF : ZiV P gl d n fuel orc b F) {kn : Tre AV d -> TH -> Res} {kx : Nat -> Tre AV d -> TH -> Res} {kr : Tre AV d -> TH -> Res} {out : AV × TH} :
  ∀(m:Nat)(E:Tre AV d)(T:TH)(H:Z00)(tm:Tr),Rep T H->EnvSim d n E tm->(Nat.rec (motive:=λ_=>Tre AV d->TH->Res) (λ_ _=>none) (λ_ again E T=>F again kx kr E T) m E T:Res)=some out ->
   ∃x E' T' tm' H',Z97 (Z0A P gl orc fuel b) m tm H=some (x,tm',H')/\EnvSim d n E' tm'/\Rep T' H'/\Zng x kn kx kr E' T'=some out
 |0,E,T,H,tm,hR,hE,h=>by cases h
 |m+1,E,T,H,tm,hR,hE,h=>by
  obtain⟨x,E1,T1,tm1,H1,g1,g2,g3,g4⟩:=hF _ kx kr E T out H tm hR hE h
  cases x with
  |normal =>
   obtain⟨x2,E2,T2,tm2,H2,k1,k2,k3,k4⟩:=Zcv hF m E1 T1 H1 tm1 g3 g2 g4
   exact⟨x2,E2,T2,tm2,H2,by simp only[Z97,g1,k1],k2,k3,k4⟩
  |exit id=>exact⟨.exit id,E1,T1,tm1,H1,by simp only[Z97,g1],g2,g3,g4⟩
  |ret=>exact⟨.ret,E1,T1,tm1,H1,by simp only[Z97,g1],g2,g3,g4⟩
theorem Z2y(hn:n<=8 ^ d)(hO:Z3T forc orc):∀c:Code,ZiV P gl d n fuel orc c (ZfB P gl d n fuel forc c)
 | .skip=>λkn kx kr E T out H tm hR hE h=>⟨.normal,E,T,tm,H,rfl,hE,hR,h⟩
 | .region id ops draw=>λkn kx kr E T out H tm hR hE h=>by
  rcases Z0N (show iff' draw (Zk9 P gl d n ops.toList forc E T kn) (ZlW P gl d n ops.toList forc ops.toList E T kn)=some out from h)with ⟨rfl,h⟩|⟨rfl,h⟩
  · obtain⟨E',T',tm',H',g1,g2,g3,g4⟩:=Zi4 hn hO hR hE h
    exact⟨.normal,E',T',tm',H',by simp[Z0A,g1],g2,g3,g4⟩
  · obtain⟨E',T',tm',H',g1,g2,g3,g4⟩:=Zfp hn hO ops.toList E T kn out H tm hR hE h
    exact⟨.normal,E',T',tm',H',by simp[Z0A,g1],g2,g3,g4⟩
 | .seq a b=>λkn kx kr E T out H tm hR hE h=>by
  obtain⟨x,E1,T1,tm1,H1,g1,g2,g3,g4⟩:=Z2y hn hO a (λE T=>ZfB P gl d n fuel forc b kn kx kr E T) kx kr E T out H tm hR hE h
  cases x with
  |normal =>
   obtain⟨x2,E2,T2,tm2,H2,k1,k2,k3,k4⟩:=Z2y hn hO b kn kx kr E1 T1 out H1 tm1 g3 g2 g4
   exact⟨x2,E2,T2,tm2,H2,by simp only[Z0A,g1,k1],k2,k3,k4⟩
  |exit id=>exact⟨.exit id,E1,T1,tm1,H1,by simp only[Z0A,g1],g2,g3,g4⟩
  |ret=>exact⟨.ret,E1,T1,tm1,H1,by simp only[Z0A,g1],g2,g3,g4⟩
 | .cond x a b=>λkn kx kr E T out H tm hR hE h=>by
  have h:(Option.rec none (λg=>Z2t (g E) (λv=>iff' v (ZfB P gl d n fuel forc a kn kx kr E T) (ZfB P gl d n fuel forc b kn kx kr E T)) none) (Z0H gl d n x):Res)=some out:=h
  cases hx:Z0H gl d n x with
  |none=>rw[hx]at h;cases h
  |some g =>
   rw[hx]at h
   rcases Z2c h with ⟨v,e,h⟩|⟨_,h⟩<;>try (cases h;done)
   have hev:Z1C gl tm x=some (.bool v):=by rw[<- Z8R hE,Z06 hx,e]
   cases v with
   |true =>
    obtain⟨x2,E2,T2,tm2,H2,k1,k2,k3,k4⟩:=Z2y hn hO a kn kx kr E T out H tm hR hE h
    exact⟨x2,E2,T2,tm2,H2,by simp only[Z0A,hev,k1],k2,k3,k4⟩
   |false =>
    obtain⟨x2,E2,T2,tm2,H2,k1,k2,k3,k4⟩:=Z2y hn hO b kn kx kr E T out H tm hR hE h
    exact⟨x2,E2,T2,tm2,H2,by simp only[Z0A,hev,k1],k2,k3,k4⟩
 | .block id b=>λkn kx kr E T out H tm hR hE h=>by
  obtain⟨x,E1,T1,tm1,H1,g1,g2,g3,g4⟩:=Z2y hn hO b kn (λid' E T=>iff' (Y00 id' id) (kn E T) (kx id' E T)) kr E T out H tm hR hE h
  cases x with
  |normal=>exact⟨.normal,E1,T1,tm1,H1,by simp only[Z0A,g1],g2,g3,g4⟩
  |exit id' =>
   rcases Z0N (show iff' (Y00 id' id) (kn E1 T1) (kx id' E1 T1)=some out from g4)with ⟨e,g4⟩|⟨e,g4⟩
   ·exact⟨.normal,E1,T1,tm1,H1,by simp only[Z0A,g1,e,if_true],g2,g3,g4⟩
   ·exact⟨.exit id',E1,T1,tm1,H1,by simp only[Z0A,g1,e,Y03,if_false],g2,g3,g4⟩
  |ret=>exact⟨.ret,E1,T1,tm1,H1,by simp only[Z0A,g1],g2,g3,g4⟩
 | .loop b=>λkn kx kr E T out H tm hR hE h=>by
  obtain⟨x,E1,T1,tm1,H1,g1,g2,g3,g4⟩:=Zcv (kn:=kn) (Z2y hn hO b) fuel E T H tm hR hE h
  exact⟨x,E1,T1,tm1,H1,by simp only[Z0A,g1],g2,g3,g4⟩
 | .rangeFunc ..=>λkn kx kr E T out H tm hR hE h=>by cases h
 | .exit id=>λkn kx kr E T out H tm hR hE h=>⟨.exit id,E,T,tm,H,rfl,hE,hR,h⟩
 | .scope b=>λkn kx kr E T out H tm hR hE h=>by
  obtain⟨x,E1,T1,tm1,H1,g1,g2,g3,g4⟩:=Z2y hn hO b kn kx kr E T out H tm hR hE h
  exact⟨x,E1,T1,tm1,H1,by simp only[Z0A,g1],g2,g3,g4⟩
 | .label _=>λkn kx kr E T out H tm hR hE h=>⟨.normal,E,T,tm,H,rfl,hE,hR,h⟩
 | .goto ..=>λkn kx kr E T out H tm hR hE h=>by cases h
 | .ret=>λkn kx kr E T out H tm hR hE h=>⟨.ret,E,T,tm,H,rfl,hE,hR,h⟩
 | .refuse ..=>λkn kx kr E T out H tm hR hE h=>by cases h
theorem Z9m{t:Nat}{g:Tre AV d->AV}(hg:Z0H gl d n (.tmp t)=some g){E:Tre AV d}{tm:Tr}(hE:EnvSim d n E tm):Z10 tm t=some (g E):=by
 have:=Z06 (E:=E) hg
 rw[Z8R hE]at this
 exact this
theorem Z9l{E:Tre AV d}{T:TH}{H:Z00}{tm:Tr}(hR:Rep T H)(hE:EnvSim d n E tm){out:AV×TH}:∀(l:List ResultVar)(G:Tre AV d->TH->(List AV->Res)->Res),Zkj P gl d n l=some G->∀f,G E T f=some out->∃vs,Z2i P tm H l=some vs/\f vs=some out
 |[],G,h,f,hf=>by simp[Zkj]at h;subst h;exact⟨[],rfl,hf⟩
 | .tmp t::l,G,h,f,hf=>by
  simp only[Zkj]at h
  split at h<;>simp at h
  rename_i g G' hg hG
  subst h
  simp only[Z0r]at hf
  obtain⟨vs,h1,h2⟩:=Z9l hR hE l G' hG _ hf
  exact⟨g E::vs,by simp[Z2i,Z9m hg hE,h1],h2⟩
 | .cell a t::l,G,h,f,hf=>by
  simp only[Zkj]at h
  split at h<;>simp at h
  · rename_i w g G' hg hG ht
    subst h
    rcases Z1p hf with ⟨b,off,e,hf⟩|⟨_,_,hf⟩|hf<;>try (cases hf;done)
    replace hf:Z17 (T.get b) _ none=some out:=hf
    obtain⟨fam,sh,cs,ty,e2,hf⟩:=Z16 hf
    have e2:T.get b=⟨true,fam,sh,.cells cs ty⟩:=e2
    obtain⟨v,h1,hf⟩:=Z3H hf
    obtain⟨vs,h3,h4⟩:=Z9l hR hE l G' hG _ hf
    have hH:=hR.obj b (by rw[e2])
    rw[e2]at hH
    exact⟨v::vs,by simp[Z2i,Z9m hg hE,e,Z5w,ht,rd,hH,Zef h1,h3],h4⟩
  · rename_i g G' m hg hG ht hm
    subst h
    rcases Z1p hf with ⟨b,off,e,hf⟩|⟨_,_,hf⟩|hf<;>try (cases hf;done)
    replace hf:Z17 (T.get b) _ none=some out:=hf
    obtain⟨fam,sh,cs,ty,e2,hf⟩:=Z16 hf
    have e2:T.get b=⟨true,fam,sh,.cells cs ty⟩:=e2
    obtain⟨v,h1,hf⟩:=Z4I hf
    rw[Z1P]at h1
    obtain⟨vs,h3,h4⟩:=Z9l hR hE l G' hG _ hf
    have hH:=hR.obj b (by rw[e2])
    rw[e2]at hH
    exact⟨.agg v::vs,by simp[Z2i,Z9m hg hE,e,Z5w,ht,hm,rd,hH,h1,h3],h4⟩
theorem Za3(hn:n<=8 ^ d){f:Tre AV d->Res}{out:AV×TH}:∀(args:List AV)(i:Nat)(E:Tre AV d),Zf0 d n args i E f=some out->(args=[]\/i+args.length<=n)/\∃E',f E'=some out/\∀t,t<n->some (Z2m d t E')=if t<i then some (Z2m d t E) else match args[t-i]? with|some v=>some v|none=>some (Z2m d t E)
 |[],i,E,h=>⟨.inl rfl,E,h,λt ht=>by simp⟩
 |v::l,i,E,h=>by
  obtain⟨h1,h2⟩:=Z05 (show iff' (Nat.blt i n) (frc1 v λv=>(Zjq AV Res d i).v v E λE'=>Zf0 d n l (i+1) E' f) none=some out from h)
  have hi:i<n:=by simpa[Y09]using h1
  rw[Z0r,Zbf]at h2
  obtain⟨h3,E',h4,h5⟩:=Za3 hn l (i+1) _ h2
  refine⟨.inr ?_,E',h4,λt ht=>?_⟩
  · rcases h3 with rfl|h3
    ·simp;omega
    ·simp only[Y0e];omega
  · rw[h5 t ht]
    by_cases hlt:t<i
    ·rw[if_pos (by omega),if_pos hlt,Z3t d i t v E (by omega) (by omega),if_neg (by omega)]
    · rw[if_neg hlt]
      by_cases e:t=i
      · subst e
        rw[if_pos (by omega),Z3t d t t v E (by omega) (by omega),if_pos rfl]
        simp
      ·rw[if_neg (by omega),show t-i=(t-(i+1))+1 from by omega,List.getElem?_cons_succ,Z3t d i t v E (by omega) (by omega),if_neg e]
theorem Zej:∀(k m:Nat),m<2 ^ k->m<2 ^ Z7C k m
 |0,m,h=>by simp[Z7C];simpa using h
 |k+1,0,h=>by simp[Z7C]
 |k+1,m+1,h=>by
  simp only[Z7C]
  have hd:Nat.div (Nat.succ m) 2=(m+1) / 2:=rfl
  rw[hd]
  have:=Zej k ((m+1) / 2) (by rw[Nat.pow_succ]at h;omega)
  show m+1<2 ^ (Z7C k ((m+1) / 2)+1)
  rw[Nat.pow_succ];omega
theorem ZfK{args:List AV}{E:Tre AV d}(hl:args.length<=n)(h4:n<=4096)(h:∀t,t<n->some (Z2m d t E)=match args[t]? with|some v=>some v|none=>some (.tuple [])):EnvSim d n E (tmk (Z7E args n args.length) (Z7C 20 n)):=by
 intro t
 by_cases ht:t<n
 · rw[if_pos ht,Z8H _ _ _ (by have:=Zej 20 n (by omega);omega),h t ht]
   unfold Z7E
   cases args[t]? with
   |some v=>rfl
   |none =>
    have:Nat.blt t n=true:=by simpa[Y09]using ht
    simp only[this,if_true]
 · rw[if_neg ht]
   cases hq:Z10 (tmk (Z7E args n args.length) (Z7C 20 n)) t with
   |none=>rfl
   |some u =>
    have:=Z8I _ _ _ _ hq
    unfold Z7E at this
    have ha:args[t]? = none:=List.getElem?_eq_none (by omega)
    have hb:Nat.blt t n=false:=by cases hb:Nat.blt t n with|false=>rfl|true=>exact absurd (by simpa[Y09]using hb) ht
    rw[ha,hb]at this
    simp at this
theorem Zi5(hO:Z3T forc orc){f:Nat}{run:Z9B->List AV->TH->Res}(hf:ZfC P gl fuel f=some run){args:List AV}{T T':TH}{r:AV}{H:Z00}(hR:Rep T H)(h:run forc args T=some (r,T')):∃H',Z9q P gl orc fuel f args H=some (r,H')/\Rep T' H':=by
 unfold ZfC at hf
 split at hf<;>try (simp at hf;done)
 rename_i fn hfn
 split at hf<;>try (simp at hf;done)
 rename_i c hc
 rw[Z13,Z13]at hf
 obtain⟨hn1,hf⟩:=Z05 hf
 obtain⟨hn2,hf⟩:=Z05 hf
 split at hf<;>simp at hf
 rename_i G hG
 subst hf
 have hn:=Nat.le_of_ble_eq_true hn1
 have hn4:=Nat.le_of_ble_eq_true hn2
 obtain⟨hl,E,h1,h2⟩:=Za3 hn args 0 _ h
 have hl':args.length<=fn.ntmps:=by rcases hl with rfl|hl;simp;omega
 have hE:=ZfK (args:=args) (E:=E) hl' hn4 λt ht=>by
  rw[h2 t ht,if_neg (by omega),Nat.sub_zero]
  cases args[t]? with
  |some v=>rfl
  |none=>simp only[Z7W]
 obtain⟨x,E1,T1,tm1,H1,g1,g2,g3,g4⟩:=Z2y hn hO c _ _ _ E T (r,T') H _ hR hE h1
 have hfin:(G E1 T1 λvs=>some (ZlQ vs,T1))=some (r,T')->∃vs,Z2i P tm1 H1 fn.results.toList=some vs/\ZlQ vs=r/\T1=T':=by
  intro hg
  obtain⟨vs,k1,k2⟩:=Z9l g3 g2 _ _ hG _ hg
  simp at k2
  exact⟨vs,k1,k2.1,k2.2⟩
 refine⟨H1,?_,?_⟩
 · simp only[Z9q,hfn,hc,frcVL_eq,Z7b,g1]
   cases x with
   |normal =>
    obtain⟨vs,k1,k2,_⟩:=hfin g4
    simp only
    rw[k1,<- k2]
    match vs with
    |[]=>rfl
    |[v]=>rfl
    |v::w::l=>rfl
   |exit id=>cases g4
   |ret =>
    obtain⟨vs,k1,k2,_⟩:=hfin g4
    simp only
    rw[k1,<- k2]
    match vs with
    |[]=>rfl
    |[v]=>rfl
    |v::w::l=>rfl
 · cases x with
   |normal=>obtain⟨vs,_,_,rfl⟩:=hfin g4;exact g3
   |exit id=>cases g4
   |ret=>obtain⟨vs,_,_,rfl⟩:=hfin g4;exact g3
def Zcb(l:List (Nat×List AV)):Orc:=λf args H=>if ZkQ f args l then some (.bool true,H) else none
theorem Zfs{tbl:List (Nat×List AV)}:∀m,Z3T (Zlp P gl tbl fuel m) (Zbd P gl (Zcb tbl) fuel m)
 |0=>by intro f args T r T' h;cases h
 |m+1=>by
  intro f args T r T' h H hR
  rcases Z0N (show iff' (ZkQ f args tbl) (some (.bool true,T)) (Option.rec none (λrun=>run (Zlp P gl tbl fuel m) args T) (ZfC P gl fuel f))=some (r,T') from h)with ⟨h1,h2⟩|⟨h1,h2⟩
  · simp at h2
    obtain⟨rfl,rfl⟩:=h2
    exact⟨H,by simp[Zbd,Zcb,h1],hR⟩
  · cases hf:ZfC P gl fuel f with
    |none=>rw[hf]at h2;cases h2
    |some run =>
     rw[hf]at h2
     obtain⟨H',g1,g2⟩:=Zi5 (Zfs m) hf hR h2
     exact⟨H',by simp[Zbd,Zcb,h1,g1],g2⟩
theorem Zh6:OrcSound P gl (Zcb []):=by
 intro f args H r H' h
 simp[Zcb,ZkQ]at h
theorem Zek{l:List (Nat×List AV)}(hl:OrcSound P gl (Zcb l)){f:Nat}{az:List AV}(hrefs:refsL az []=[]){orc:Orc}(hO:OrcSound P gl orc){H1:Z00}(h:orc f az []=some (.bool true,H1)):OrcSound P gl (Zcb ((f,az)::l)):=by
 intro g args H r H' hg
 simp only[Zcb]at hg
 split at hg<;>simp at hg
 obtain⟨rfl,rfl⟩:=hg
 rename_i hmem
 simp only[ZkQ,Y0d,Y01]at hmem
 rcases hmem with ⟨hm1,hm2⟩|hm'
 · have:=Y05 hm1;subst this
   have:=veqL_eq _ _ hm2;subst this
   intro sn ι W cargs hgl hR ha
   have ha':LR sn noI args cargs:=LR_refs args [] cargs (λb hb=>by rw[hrefs]at hb;simp at hb) ha
   have hR':R sn noI [] W:=⟨λb=>by simp[noI],λb p hp=>by simp[noI]at hp,λb o p hb=>by simp at hb,λb b' o o' p p' hb=>by simp at hb,λa v hv=>by
    obtain⟨h1,h2,_⟩:=hR.snap a v hv
    exact⟨h1,h2,λb o p hb=>by simp at hb⟩,λb o p hb=>by simp at hb⟩
   refine (hO g args [] _ _ h sn noI W cargs hgl hR' ha').mono ?_
   rintro e W' ⟨v,sn',ι',rfl,hv,hs⟩
   have hext:Ext W W':=⟨λc hc=>hs.frame c hc λb o p hb=>by simp at hb,hs.size,hs.os,hs.tape,hs.output⟩
   refine⟨v,sn,ι,rfl,?_,Stp.ext hR hext⟩
   simpa[VR]using hv
 ·exact hl g args H (.bool true) H (by simp[Zcb,hm'])
theorem Zdw(hm:P.follows .mixedOrders=true)(hn:NoNum P){l:List (Nat×List AV)}(hl:OrcSound P gl (Zcb l)){m f:Nat}{az:List AV}(hrefs:refsL az []=[]){T':TH}(h:Zlp P gl l fuel m f az TH.empty=some (.bool true,T')):OrcSound P gl (Zcb ((f,az)::l)):=by
 obtain⟨H',h1,_⟩:=Zfs m f az TH.empty _ T' h [] Rep.empty
 exact Zek hl hrefs (Z6E hm hn hl m) h1
noncomputable def Z8Q(r:Res):Bool:=Option.rec false (λp=>Prod.rec (λv _=>Z2t v (λb=>b) false) p) r
theorem Z8P{r:Res}(h:Z8Q r=true):∃T,r=some (.bool true,T):=by
 cases r with
 |none=>cases h
 |some p =>
  obtain⟨v,T⟩:=p
  have h:Z2t v (λb=>b) false=true:=h
  rcases Z3A v (λb=>b) false with ⟨b,rfl,e⟩|⟨_,e⟩<;>rw[e]at h
  ·subst h;exact⟨T,rfl⟩
  ·cases h
theorem Zdv(hm:P.follows .mixedOrders=true)(hn:NoNum P){l:List (Nat×List AV)}(hl:OrcSound P gl (Zcb l)){m f:Nat}{az:List AV}(hrefs:refsL az []=[])(h:Z8Q (Zlp P gl l fuel m f az TH.empty)=true):OrcSound P gl (Zcb ((f,az)::l)):=by
 obtain⟨T',h'⟩:=Z8P h
 exact Zdw hm hn hl hrefs h'
end ok
end Go.Abs
end
section
namespace Go.Abs
open Go.RowKit
def onO{α : Type}(o:Option α)(k : α -> Prop):Prop:=match o with|some v=>k v|none=>False
theorem Z01{α : Type}{o:Option α}{k : α -> Prop}(h:onO o k):∃v,o=some v/\k v:=by
 cases o with
 |none=>exact h.elim
 |some v=>exact⟨v,rfl,h⟩
section W
variable (P:Program)
def rdW(H:Z00)(a:AV)(n:Nat)(k:List AV->Prop):Prop :=
 match a with
 | .ptr b off=>onO H[b]? λo=>match o.alive,o.body with
  |true,.cells cs _=>∃r,tk n (cs.drop off)=some r/\k r
  |_,_=>False
 | .rp cs=>∃r,tk n cs=some r/\k r
 |_=>False
theorem ZiA{H:Z00}{a:AV}{n:Nat}{k:List AV->Prop}(h:rdW H a n k):∃r,rd H a n=some r/\k r:=by
 unfold rdW at h
 unfold rd
 split at h
 · rename_i b off
   obtain⟨o,ho,h⟩:=Z01 h
   simp only[ho]
   split at h
   ·rename_i e1 e2;simp only[e1,e2];exact h
   ·exact h.elim
 ·exact h
 ·exact h.elim
def ZjN(t:TypeId)(a:AV)(H:Z00)(k:AV->Prop):Prop :=
 match Z4d P t with
 |some true=>onO (tsz P t) λn=>rdW H a n λcs=>k (.agg cs)
 |some false=>rdW H a 1 λcs=>match cs with|[c]=>frc1 c k|_=>False
 |none=>False
theorem ZhI{t:TypeId}{a:AV}{H:Z00}{k:AV->Prop}(h:ZjN P t a H k):∃r,Z5w P t a H=some r/\k r:=by
 unfold ZjN at h
 unfold Z5w
 split at h
 · rename_i e
   obtain⟨n,hn,h⟩:=Z01 h
   obtain⟨cs,h1,h2⟩:=ZiA h
   simp only[e,hn,h1];exact⟨_,rfl,h2⟩
 · rename_i e
   obtain⟨cs,h1,h2⟩:=ZiA h
   simp only[e,h1]
   split at h2
   ·rw[Z0r]at h2;exact⟨_,rfl,h2⟩
   ·exact h2.elim
 ·exact h.elim
def Zi9(e:TypeId->AV->AV->Option Bool)(P:Program):List (TypeId×Nat)->List AV->List AV->Option Bool
 |[],_,_=>some true
 |(t,off)::fs,xs,ys =>
  match Z60 P t xs off,Z60 P t ys off with
  |some a,some b=>match e t a b,Zi9 e P fs xs ys with
   |some x,some y=>some (x&&y)
   |_,_=>none
  |_,_=>none
def eqB(P:Program):Nat->TypeId->AV->AV->Option Bool
 |0,_,_,_=>none
 |d+1,t,x,y =>
  match x,y with
  | .agg xs,.agg ys=>match Z6l P t with|some fs=>Zi9 (eqB P d) P fs xs ys|none=>none
  |x,y=>aEq P (d+1) t x y
theorem ZcI{e e':TypeId->AV->AV->Option Bool}(he:∀t x y b,e t x y=some b->e' t x y=some b):∀(fs:List (TypeId×Nat))(xs ys:List AV)(b:Bool),Zi9 e P fs xs ys=some b->Zke e' P fs xs ys=some b
 |[],xs,ys,b,h=>h
 |(t,off)::fs,xs,ys,b,h=>by
  simp only[Zi9]at h
  simp only[Zke]
  split at h<;>try (simp at h;done)
  rename_i a c ha hc
  split at h<;>simp at h
  rename_i x y hx hy
  simp only[ha,hc,he _ _ _ _ hx]
  cases x with
  |true=>simp at h;subst h;exact ZcI he fs xs ys _ hy
  |false=>simp at h;subst h;rfl
theorem ZiP:∀(d:Nat)(t:TypeId)(x y:AV)(b:Bool),eqB P d t x y=some b->aEq P d t x y=some b
 |0,t,x,y,b,h=>by simp[eqB]at h
 |d+1,t,x,y,b,h=>by
  unfold eqB at h
  split at h
  · split at h<;>try (simp at h;done)
    rename_i fs hfs
    simp only[aEq,hfs]
    exact ZcI P (λt x y b h=>ZiP d t x y b h) fs _ _ b h
  ·exact h
def Zio(P:Program)(t:TypeId)(a b:List AV):Option Bool:=if P.eqGuardType P.depth t then none else eqB P 10000 t (.agg a) (.agg b)
def ZmO(op:BinOp)(t:TypeId)(c:Bool)(u v:AV)(k:AV->Prop):Prop :=
 match u,v with
 | .int kx a,.int ky b=>match op with
  | .quo=>if kx=ky then b≠0/\k (.int kx (kx.wrap (a.tdiv b))) else False
  | .rem=>if kx=ky then b≠0/\k (.int kx (a.tmod b)) else False
  | .add=>if kx=ky then ∃n,kx.wrap (a+b)=n/\k (.int kx n) else False
  | .sub=>if kx=ky then ∃n,kx.wrap (a-b)=n/\k (.int kx n) else False
  | .mul=>if kx=ky then ∃n,kx.wrap (a*b)=n/\k (.int kx n) else False
  | .shl=>0<=b/\k (.int kx (kx.wrap (a*2 ^ (min b.toNat kx.bits))))
  | .shr=>0<=b/\k (.int kx (a.fdiv (2 ^ (min b.toNat kx.bits))))
  |op=>if kx=ky then onO (Z0O op kx a b) k else False
 | .str a,.str b=>match op with
  | .add=>a.length+b.length<=9223372036854775807/\k (.str (a++b))
  |op=>onO (Z4x op a b) k
 | .agg a,.agg b=>match op with
  | .eql=>∃r,Zio P t a b=some r/\k (.bool r)
  | .neq=>∃r,Zio P t a b=some r/\k (.bool !r)
  |_=>False
 |u,v=>onO (Z3j P op t c u v) k
theorem Zkw{op:BinOp}{t:TypeId}{c:Bool}{u v:AV}{k:AV->Prop}(h:ZmO P op t c u v k):∃r,Z3j P op t c u v=some r/\k r:=by
 unfold ZmO at h
 split at h
 · rename_i kx a ky b
   split at h
   · split at h
     ·rename_i e;subst e;exact⟨_,by simp[Z3j,Z5z,Z0O,h.1],h.2⟩
     ·exact h.elim
   · split at h
     ·rename_i e;subst e;exact⟨_,by simp[Z3j,Z5z,Z0O,h.1],h.2⟩
     ·exact h.elim
   · split at h
     ·rename_i e;subst e;obtain⟨n,rfl,h⟩:=h;exact⟨_,by simp[Z3j,Z5z,Z0O],h⟩
     ·exact h.elim
   · split at h
     ·rename_i e;subst e;obtain⟨n,rfl,h⟩:=h;exact⟨_,by simp[Z3j,Z5z,Z0O],h⟩
     ·exact h.elim
   · split at h
     ·rename_i e;subst e;obtain⟨n,rfl,h⟩:=h;exact⟨_,by simp[Z3j,Z5z,Z0O],h⟩
     ·exact h.elim
   ·exact⟨_,by simp only[Z3j,Z5z];rw[if_neg (by omega)],h.2⟩
   ·exact⟨_,by simp only[Z3j,Z5z];rw[if_neg (by omega)],h.2⟩
   · rename_i o1 o2 o5 o6 o7 o3 o4
     split at h
     · rename_i e;subst e
       obtain⟨r,h1,h2⟩:=Z01 h
       refine⟨r,?_,h2⟩
       simp only[Z3j,Z5z]
       cases op with
       |shl=>exact (o3 rfl).elim
       |shr=>exact (o4 rfl).elim
       |_=>simpa using h1
     ·exact h.elim
 · split at h
   ·exact⟨_,by simp[Z3j,Z5z,Z4x,h.1],h.2⟩
   · obtain⟨r,h1,h2⟩:=Z01 h
     exact⟨r,by simp only[Z3j,Z5z];exact h1,h2⟩
 · have key : ∀ {x y : List AV} {r : Bool}, Zio P t x y = some r -> ¬ P.eqGuardType P.depth t = true /\ aEq P 10000 t (.agg x) (.agg y) = some r := by
    intro x y r h1
    unfold Zio at h1
    split at h1
    ·cases h1
    ·rename_i hg;exact⟨hg,ZiP P _ _ _ _ _ h1⟩
   split at h
   · obtain⟨r,h1,h2⟩:=h
     exact⟨_,by simp only[Z3j,Z5z];rw[if_neg (key h1).1,(key h1).2],h2⟩
   · obtain⟨r,h1,h2⟩:=h
     exact⟨_,by simp only[Z3j,Z5z];rw[if_neg (key h1).1,(key h1).2],h2⟩
   ·exact h.elim
 ·exact Z01 h
def Zmv(t:TypeId)(x i:AV)(k:AV->Prop):Prop :=
 match i with
 | .int _ i=>match P.underlying t with
  |some (.slice e)=>onO (tsz P e) λz'=>match x with
   | .slice b off len _ z=>∃j:Nat,(i=(j:Int)/\j<len)/\(if z'=z then k (.ptr b (off+j*z)) else False)
   | .rs n z cs=>∃j:Nat,(i=(j:Int)/\j<n)/\(if z'=z then k (.rp (cs.drop (j*z))) else False)
   |_=>False
  |some (.array n e)=>onO (tsz P e) λz=>∃j:Nat,(i=(j:Int)/\j<n)/\(match x with
   | .ptr b off=>k (.ptr b (off+j*z))
   | .rp cs=>k (.rp (cs.drop (j*z)))
   |_=>False)
  |_=>False
 |_=>False
theorem ZjT{t:TypeId}{x i:AV}{k:AV->Prop}(h:Zmv P t x i k):∃r,Z1L P t x i=some r/\k r:=by
 unfold Zmv at h
 unfold Z1L
 split at h
 · split at h
   · rename_i e
     obtain⟨z',hz,h1⟩:=Z01 h
     clear h
     simp only[e,hz]
     split at h1
     · obtain⟨j,⟨ej,hb⟩,h2⟩:=h1
       subst ej
       simp only
       rw[if_pos (by omega),Y0f]
       split at h2
       ·rename_i hq;rw[if_pos hq];exact⟨_,rfl,h2⟩
       ·exact h2.elim
     · obtain⟨j,⟨ej,hb⟩,h2⟩:=h1
       subst ej
       simp only
       rw[if_pos (by omega),Y0f]
       split at h2
       ·rename_i hq;rw[if_pos hq];exact⟨_,rfl,h2⟩
       ·exact h2.elim
     ·exact h1.elim
   · rename_i e
     obtain⟨z',hz,h1⟩:=Z01 h
     clear h
     simp only[e,hz]
     obtain⟨j,⟨ej,hb⟩,h2⟩:=h1
     subst ej
     rw[if_pos (by omega),Y0f]
     split at h2
     ·exact⟨_,rfl,h2⟩
     ·exact⟨_,rfl,h2⟩
     ·exact h2.elim
   ·exact h.elim
 ·exact h.elim
def ixW(t:TypeId)(x i:AV)(k:AV->Prop):Prop :=
 match i with
 | .int _ i=>match x with
  | .str s=>match P.underlying t with
   |some .string=>∃j:Nat,i=(j:Int)/\∃b,s[j]? = some b/\k (.int .u8 b.toNat)
   |_=>False
  | .agg cs=>match P.underlying t with
   |some (.array n e)=>onO (tsz P e) λz=>(0<=i/\i<(n:Int))/\∃r,Z60 P e cs (i.toNat*z)=some r/\k r
   |_=>False
  |_=>False
 |_=>False
theorem Zlk{t:TypeId}{x i:AV}{k:AV->Prop}(h:ixW P t x i k):∃r,Z8C P t x i=some r/\k r:=by
 unfold ixW at h
 unfold Z8C
 split at h
 · split at h
   · split at h
     · rename_i e
       obtain⟨j,rfl,b,h2,h3⟩:=h
       simp only[e]
       rw[if_pos (by omega),Y0f,h2];exact⟨_,rfl,h3⟩
     ·exact h.elim
   · split at h
     · rename_i e
       obtain⟨z,hz,hb,r,h1,h2⟩:=Z01 h
       simp only[e,hz]
       rw[if_pos hb];exact⟨r,h1,h2⟩
     ·exact h.elim
   ·exact h.elim
 ·exact h.elim
def Ze3(x:Option AV)(dflt top:Nat)(k:Nat->Prop):Prop :=
 match x with
 |none=>k dflt
 |some (.int _ i)=>∃j:Nat,(i=(j:Int)/\j<=top)/\k j
 |_=>False
theorem Z2G{x:Option AV}{d top:Nat}{k:Nat->Prop}(h:Ze3 x d top k):∃n,bnd x d top=some n/\k n:=by
 unfold Ze3 at h
 unfold bnd
 split at h
 ·exact⟨_,rfl,h⟩
 · obtain⟨j,⟨rfl,hb⟩,h⟩:=h
   simp only;rw[if_pos (by omega),Y0f];exact⟨_,rfl,h⟩
 ·exact h.elim
def Zer(t:TypeId)(x:AV)(lo hi:Option AV)(k:AV->Prop):Prop :=
 match x with
 | .str s=>match P.underlying t with
  |some .string=>match lo,hi with
   |none,none=>k (.str s)
   |some lo,none=>Ze3 (some lo) 0 s.length λl=>k (.str (s.drop l))
   |none,some hi=>Ze3 (some hi) s.length s.length λh=>k (.str (s.take h))
   |some lo,some hi=>Ze3 (some hi) s.length s.length λh=>Ze3 (some lo) 0 h λl=>k (.str ((s.drop l).take (h-l)))
  |_=>False
 | .slice b off len cap z=>match P.underlying t with
  |some (.slice e)=>onO (tsz P e) λz'=>if z'=z then Ze3 hi len cap λh=>Ze3 lo 0 h λl=>k (.slice b (off+l*z) (h-l) (cap-l) z) else False
  |_=>False
 | .rs n z cs=>match P.underlying t with
  |some (.slice e)=>onO (tsz P e) λz'=>if z'=z then Ze3 hi n n λh=>Ze3 lo 0 h λl=>k (.rs (h-l) z ((cs.drop (l*z)).take ((h-l)*z))) else False
  |_=>False
 | .nslice=>match P.underlying t with
  |some (.slice e)=>onO (tsz P e) λ_=>Ze3 hi 0 0 λh=>Ze3 lo 0 h λl=>k .nslice
  |_=>False
 |_=>False
theorem Zeq{t:TypeId}{x:AV}{lo hi:Option AV}{k:AV->Prop}(h:Zer P t x lo hi k):∃r,Z4h P t x lo hi=some r/\k r:=by
 unfold Zer at h
 unfold Z4h
 split at h
 · split at h
   · rename_i e
     split at h
     ·simp only[e,bnd];exact⟨_,rfl,by simpa using h⟩
     · obtain⟨b,h2,h⟩:=Z2G h
       simp only[e]
       rw[show bnd none _ _=some _ from rfl]
       simp only[h2]
       exact⟨_,rfl,by rw[List.take_of_length_le (by simp)];exact h⟩
     · obtain⟨b,h2,h⟩:=Z2G h
       simp only[e,h2]
       rw[show bnd none 0 b=some 0 from rfl]
       exact⟨_,rfl,by simpa using h⟩
     · obtain⟨a,h1,h⟩:=Z2G h
       obtain⟨b,h2,h⟩:=Z2G h
       simp only[e,h1,h2];exact⟨_,rfl,h⟩
   ·exact h.elim
 · split at h
   · rename_i e
     obtain⟨z',hz,h⟩:=Z01 h
     split at h
     · rename_i ez
       obtain⟨a,h1,h⟩:=Z2G h
       obtain⟨b,h2,h⟩:=Z2G h
       simp only[e,hz];rw[if_pos ez];simp only[h1,h2];exact⟨_,rfl,h⟩
     ·exact h.elim
   ·exact h.elim
 · split at h
   · rename_i e
     obtain⟨z',hz,h⟩:=Z01 h
     split at h
     · rename_i ez
       obtain⟨a,h1,h⟩:=Z2G h
       obtain⟨b,h2,h⟩:=Z2G h
       simp only[e,hz];rw[if_pos ez];simp only[h1,h2];exact⟨_,rfl,h⟩
     ·exact h.elim
   ·exact h.elim
 · split at h
   · rename_i e
     obtain⟨z',hz,h⟩:=Z01 h
     obtain⟨a,h1,h⟩:=Z2G h
     obtain⟨b,h2,h⟩:=Z2G h
     simp only[e,hz,h1,h2];exact⟨_,rfl,h⟩
   ·exact h.elim
 ·exact h.elim
def Z5W(ρ : Operand->Option AV)(H:Z00)(o:Oper)(k:AV->Prop):Prop :=
 match o.op with
 | .move x=>onO (ρ x) λv=>frc1 v k
 | .assign x=>onO (ρ x) λv=>frc1 v k
 | .pick c a b=>onO (ρ c) λc=>match c with
  | .bool c=>(c=true->onO (ρ a) λv=>frc1 v k)/\(c=false->onO (ρ b) λv=>frc1 v k)
  |_=>False
 | .load t a=>onO (ρ a) λa=>ZjN P t a H k
 | .binOp op t x y _=>onO (ρ x) λu=>onO (ρ y) λv=>ZmO P op t (isC x || isC y) u v k
 | .indexAddr t x i=>onO (ρ x) λu=>onO (ρ i) λv=>Zmv P t u v k
 | .index t x i=>onO (ρ x) λu=>onO (ρ i) λv=>ixW P t u v k
 | .slice t x lo hi none=>onO (ρ x) λu=>onO (Z5v ρ lo) λlo=>onO (Z5v ρ hi) λhi=>Zer P t u lo hi k
 | .lookup t m key ok=>onO (ρ m) λm=>onO (ρ key) λkey=>∃r,Z5x P t m key ok H=some r/\k r
 | .convert s d _=>match Z7y P s d with
  |true=>∃r,Z02 P ρ H o=some r/\k r
  |false=>onO (Z02 P ρ H o) λr=>frc1 r k
 |_=>onO (Z02 P ρ H o) λr=>frc1 r k
theorem Z36{ρ : Operand->Option AV}{H:Z00}{o:Oper}{k:AV->Prop}(h:Z5W P ρ H o k):∃r,Z02 P ρ H o=some r/\k r:=by
 unfold Z5W at h
 unfold Z02 Z0p
 split at h
 ·rename_i e;obtain⟨v,h1,h⟩:=Z01 h;rw[Z0r]at h;exact⟨v,by simp only[e];exact h1,h⟩
 ·rename_i e;obtain⟨v,h1,h⟩:=Z01 h;rw[Z0r]at h;exact⟨v,by simp only[e];exact h1,h⟩
 · rename_i e;obtain⟨c,h1,h⟩:=Z01 h
   split at h
   · rename_i c b'
     cases b' with
     |true=>obtain⟨v,h2,h⟩:=Z01 (h.1 rfl);rw[Z0r]at h;exact⟨v,by simp only[e,h1];exact h2,h⟩
     |false=>obtain⟨v,h2,h⟩:=Z01 (h.2 rfl);rw[Z0r]at h;exact⟨v,by simp only[e,h1];exact h2,h⟩
   ·exact h.elim
 ·rename_i e;obtain⟨v,h1,h⟩:=Z01 h;obtain⟨r,h2,h⟩:=ZhI P h;exact⟨r,by simp only[e,h1];exact h2,h⟩
 ·rename_i e;obtain⟨u,h1,h⟩:=Z01 h;obtain⟨v,h2,h⟩:=Z01 h;obtain⟨r,h3,h⟩:=Zkw P h;exact⟨r,by simp only[e,h1,h2];exact h3,h⟩
 ·rename_i e;obtain⟨u,h1,h⟩:=Z01 h;obtain⟨v,h2,h⟩:=Z01 h;obtain⟨r,h3,h⟩:=ZjT P h;exact⟨r,by simp only[e,h1,h2];exact h3,h⟩
 ·rename_i e;obtain⟨u,h1,h⟩:=Z01 h;obtain⟨v,h2,h⟩:=Z01 h;obtain⟨r,h3,h⟩:=Zlk P h;exact⟨r,by simp only[e,h1,h2];exact h3,h⟩
 ·rename_i e;obtain⟨u,h1,h⟩:=Z01 h;obtain⟨v,h2,h⟩:=Z01 h;obtain⟨x,h3,h⟩:=Z01 h;obtain⟨r,h4,h⟩:=Zeq P h;exact⟨r,by simp only[e,h1,h2,h3];exact h4,h⟩
 ·rename_i e;obtain⟨u,h1,h⟩:=Z01 h;obtain⟨v,h2,h⟩:=Z01 h;obtain⟨r,h3,h⟩:=h;exact⟨r,by simp only[e,h1,h2];exact h3,h⟩
 · rename_i e
   split at h
   · obtain⟨r,h1,h⟩:=h
     exact⟨r,by simpa only[Z02,Z0p]using h1,h⟩
   · obtain⟨r,h1,h⟩:=Z01 h
     rw[Z0r]at h
     exact⟨r,by simpa only[Z02,Z0p]using h1,h⟩
 · obtain⟨r,h1,h⟩:=Z01 h
   rw[Z0r]at h
   exact⟨r,by simpa only[Z02,Z0p]using h1,h⟩
noncomputable def frcNP(n:Nat)(k:Nat->Prop):Prop :=
 Nat.rec (motive:=λ_=>Prop) (k 0) (λm0 _=>Nat.rec (motive:=λ_=>Prop) (k 1) (λm1 _=>Nat.rec (motive:=λ_=>Prop) (k 2) (λm2 _=>Nat.rec (motive:=λ_=>Prop) (k 3) (λm3 _=>Nat.rec (motive:=λ_=>Prop) (k 4) (λm4 _=>Nat.rec (motive:=λ_=>Prop) (k 5) (λm5 _=>Nat.rec (motive:=λ_=>Prop) (k 6) (λm6 _=>Nat.rec (motive:=λ_=>Prop) (k 7) (λm7 _=>Nat.rec (motive:=λ_=>Prop) (k 8) (λm8 _=>Nat.rec (motive:=λ_=>Prop) (k 9) (λm9 _=>Nat.rec (motive:=λ_=>Prop) (k 10) (λm10 _=>Nat.rec (motive:=λ_=>Prop) (k 11) (λm11 _=>Nat.rec (motive:=λ_=>Prop) (k 12) (λm12 _=>Nat.rec (motive:=λ_=>Prop) (k 13) (λm13 _=>Nat.rec (motive:=λ_=>Prop) (k 14) (λm14 _=>Nat.rec (motive:=λ_=>Prop) (k 15) (λm15 _=>Nat.rec (motive:=λ_=>Prop) (k 16) (λm16 _=>Nat.rec (motive:=λ_=>Prop) (k 17) (λm17 _=>Nat.rec (motive:=λ_=>Prop) (k 18) (λm18 _=>Nat.rec (motive:=λ_=>Prop) (k 19) (λm19 _=>Nat.rec (motive:=λ_=>Prop) (k 20) (λm20 _=>Nat.rec (motive:=λ_=>Prop) (k 21) (λm21 _=>Nat.rec (motive:=λ_=>Prop) (k 22) (λm22 _=>Nat.rec (motive:=λ_=>Prop) (k 23) (λm23 _=>Nat.rec (motive:=λ_=>Prop) (k 24) (λm24 _=>Nat.rec (motive:=λ_=>Prop) (k 25) (λm25 _=>Nat.rec (motive:=λ_=>Prop) (k 26) (λm26 _=>Nat.rec (motive:=λ_=>Prop) (k 27) (λm27 _=>Nat.rec (motive:=λ_=>Prop) (k 28) (λm28 _=>Nat.rec (motive:=λ_=>Prop) (k 29) (λm29 _=>Nat.rec (motive:=λ_=>Prop) (k 30) (λm30 _=>Nat.rec (motive:=λ_=>Prop) (k 31) (λm31 _=>Nat.rec (motive:=λ_=>Prop) (k 32) (λm32 _=>Nat.rec (motive:=λ_=>Prop) (k 33) (λm33 _=>Nat.rec (motive:=λ_=>Prop) (k 34) (λm34 _=>Nat.rec (motive:=λ_=>Prop) (k 35) (λm35 _=>Nat.rec (motive:=λ_=>Prop) (k 36) (λm36 _=>Nat.rec (motive:=λ_=>Prop) (k 37) (λm37 _=>Nat.rec (motive:=λ_=>Prop) (k 38) (λm38 _=>Nat.rec (motive:=λ_=>Prop) (k 39) (λm39 _=>Nat.rec (motive:=λ_=>Prop) (k 40) (λm40 _=>Nat.rec (motive:=λ_=>Prop) (k 41) (λm41 _=>Nat.rec (motive:=λ_=>Prop) (k 42) (λm42 _=>Nat.rec (motive:=λ_=>Prop) (k 43) (λm43 _=>Nat.rec (motive:=λ_=>Prop) (k 44) (λm44 _=>Nat.rec (motive:=λ_=>Prop) (k 45) (λm45 _=>Nat.rec (motive:=λ_=>Prop) (k 46) (λm46 _=>Nat.rec (motive:=λ_=>Prop) (k 47) (λm47 _=>k (m47+48)) m46) m45) m44) m43) m42) m41) m40) m39) m38) m37) m36) m35) m34) m33) m32) m31) m30) m29) m28) m27) m26) m25) m24) m23) m22) m21) m20) m19) m18) m17) m16) m15) m14) m13) m12) m11) m10) m9) m8) m7) m6) m5) m4) m3) m2) m1) m0) n
theorem Z3b(n:Nat)(k:Nat->Prop):frcNP n k=k n:=match n with
 |0=>rfl
 |1=>rfl
 |2=>rfl
 |3=>rfl
 |4=>rfl
 |5=>rfl
 |6=>rfl
 |7=>rfl
 |8=>rfl
 |9=>rfl
 |10=>rfl
 |11=>rfl
 |12=>rfl
 |13=>rfl
 |14=>rfl
 |15=>rfl
 |16=>rfl
 |17=>rfl
 |18=>rfl
 |19=>rfl
 |20=>rfl
 |21=>rfl
 |22=>rfl
 |23=>rfl
 |24=>rfl
 |25=>rfl
 |26=>rfl
 |27=>rfl
 |28=>rfl
 |29=>rfl
 |30=>rfl
 |31=>rfl
 |32=>rfl
 |33=>rfl
 |34=>rfl
 |35=>rfl
 |36=>rfl
 |37=>rfl
 |38=>rfl
 |39=>rfl
 |40=>rfl
 |41=>rfl
 |42=>rfl
 |43=>rfl
 |44=>rfl
 |45=>rfl
 |46=>rfl
 |47=>rfl
 |n+48=>rfl
noncomputable def Z6k(v:AV)(k:AV->Prop):Prop :=
 match v with
 | .ptr b off=>frcNP b λb=>k (.ptr b off)
 | .slice b off len cap z=>frcNP b λb=>frcNP z λz=>k (.slice b off len cap z)
 | .map b=>frcNP b λb=>k (.map b)
 |v=>frc1 v k
theorem Z23(v:AV)(k:AV->Prop):Z6k v k=k v:=by
 unfold Z6k
 split<;>simp only[Z3b,Z0r]
noncomputable def frcHW:Z00->(Z00->Prop)->Prop
 |[],k=>k []
 |⟨al,fam,sh,.cells cs t⟩::l,k=>Zbo al λal=>frcNP fam λfam=>frcNP sh λsh=>frcHW l λl=>k (⟨al,fam,sh,.cells cs t⟩::l)
 |⟨al,fam,sh,.map es c⟩::l,k=>Zbo al λal=>frcNP fam λfam=>frcNP sh λsh=>frcHW l λl=>k (⟨al,fam,sh,.map es c⟩::l)
 |⟨al,fam,sh,.siter a b⟩::l,k=>Zbo al λal=>frcNP fam λfam=>frcNP sh λsh=>frcHW l λl=>k (⟨al,fam,sh,.siter a b⟩::l)
 |⟨al,fam,sh,.loop g ts⟩::l,k=>Zbo al λal=>frcNP fam λfam=>frcNP sh λsh=>frcHW l λl=>k (⟨al,fam,sh,.loop g ts⟩::l)
theorem Z0m:∀(H:Z00)(k:Z00->Prop),frcHW H k=k H
 |[],k=>rfl
 |⟨al,fam,sh,.cells cs t⟩::l,k=>by simp only[frcHW,Z4X,Z3b,Z0m l]
 |⟨al,fam,sh,.map es c⟩::l,k=>by simp only[frcHW,Z4X,Z3b,Z0m l]
 |⟨al,fam,sh,.siter a b⟩::l,k=>by simp only[frcHW,Z4X,Z3b,Z0m l]
 |⟨al,fam,sh,.loop g ts⟩::l,k=>by simp only[frcHW,Z4X,Z3b,Z0m l]
noncomputable def wrW(H:Z00)(a:AV)(vs:List AV)(k:Z00->Prop):Prop :=
 match a with
 | .ptr b off=>onO H[b]? λo=>match o.alive,o.body with
  |true,.cells cs ty=>if vs.all one then ∃cs',spl cs off vs=some cs'/\frcHW ((Z2o b o.fam H).set b { o with body:=.cells cs' ty }) k else False
  |_,_=>False
 |_=>False
theorem ZkY{H:Z00}{a:AV}{vs:List AV}{k:Z00->Prop}(h:wrW H a vs k):∃H',wr H a vs=some H'/\k H':=by
 unfold wrW at h
 unfold wr
 split at h
 · obtain⟨o,ho,h⟩:=Z01 h
   simp only[ho]
   split at h
   · rename_i e1 e2
     split at h
     · rename_i e3
       obtain⟨cs',h1,h⟩:=h
       rw[Z0m]at h
       simp only[e1]at h
       simp only[e1,e2];rw[if_pos e3,h1];exact⟨_,rfl,h⟩
     ·exact h.elim
   ·exact h.elim
 ·exact h.elim
def Zmb(t:TypeId)(a v:AV)(H:Z00)(k:Z00->Prop):Prop :=
 onO (tsz P t) λn=>if v.cells.length=n then wrW H a v.cells k else False
theorem Zja{t:TypeId}{a v:AV}{H:Z00}{k:Z00->Prop}(h:Zmb P t a v H k):∃H',Z5T P t a v H=some H'/\k H':=by
 unfold Zmb at h
 unfold Z5T
 obtain⟨n,hn,h⟩:=Z01 h
 simp only[hn]
 split at h
 ·rename_i e;rw[if_pos e];exact ZkY h
 ·exact h.elim
def Zfi(o:Oper):Bool :=
 match o.op with
 | .move _=>true | .assign _=>true | .pick ..=>true | .build ..=>true | .nilCheck _=>true | .binOp ..=>true | .unOp ..=>true
 | .makeInterface ..=>true | .makeFunc ..=>true | .slice ..=>true | .fieldAddr ..=>true | .field ..=>true | .indexAddr ..=>true | .index ..=>true | .extract ..=>true
 | .load ..=>true | .lookup ..=>true
 | .call c=>match c.callee with | .builtin .len=>true | .builtin .max=>true | .builtin .min=>true|_=>false
 |_=>false
abbrev CW:=Nat->List AV->Z00->(AV->Z00->Prop)->Prop
def ZaV(P:Program)(orc:Orc)(cw:CW):Prop:=∀g args H k,cw g args H k->∃r H',Z0e P orc H g args=some (r,H')/\k r H'
noncomputable def cw0(orc:Orc):CW:=λg args H k=>∃y,Z0e P orc H g args=some y/\Z6k y.1 λr=>frcHW y.2 λH'=>k r H'
theorem ZcO(orc:Orc):ZaV P orc (cw0 P orc):=λg args H k ⟨y,h1,h2⟩=>⟨y.1,y.2,h1,by rw[Z23,Z0m]at h2;exact h2⟩
def Zny(o:Oper):Bool:=match o.op with
 | .slice t _ _ _ _=>match P.underlying t with|some (.array _ _)=>true|_=>false
 |_=>false
def opW(orc:Orc)(cw:CW)(ρ : Operand->Option AV)(o:Oper)(H:Z00)(k:AV->Z00->Prop):Prop :=
 match Zfi o with
 |true=>match Zny P o with
  |true=>∃x,aop P orc ρ o H=some x/\Z6k x.1 λr=>frcHW x.2 λH'=>k r H'
  |false=>Z5W P ρ H o λr=>k r H
 |false=>match o.op with
  | .convert s d _=>match Z7y P s d with
   |true=>∃x,aop P orc ρ o H=some x/\Z6k x.1 λr=>frcHW x.2 λH'=>k r H'
   |false=>match Z02 P ρ H o with
    |some r=>frc1 r λr=>k r H
    |none=>∃x,aop P orc ρ o H=some x/\Z6k x.1 λr=>frcHW x.2 λH'=>k r H'
  | .store t a x=>onO (ρ a) λa=>onO (ρ x) λx=>Zmb P t a x H λH'=>k (.tuple []) H'
  | .alloc _=>onO (Z31 P ρ H o) λx=>Z6k x.1 λr=>frcHW x.2 λH'=>k r H'
  | .box ..=>onO (Z31 P ρ H o) λx=>Z6k x.1 λr=>frcHW x.2 λH'=>k r H'
  | .buildSlice ..=>onO (Z31 P ρ H o) λx=>Z6k x.1 λr=>frcHW x.2 λH'=>k r H'
  | .makeMap ..=>onO (Z31 P ρ H o) λx=>Z6k x.1 λr=>frcHW x.2 λH'=>k r H'
  | .mapUpdate t m i v=>onO (ρ m) λm=>onO (ρ i) λi=>onO (ρ v) λv=>∃x,Z3h P t m i v H=some x/\frcHW x λH'=>k (.tuple []) H'
  | .insert t m i v=>onO (ρ m) λm=>onO (ρ i) λi=>onO (ρ v) λv=>∃x,Z3h P t m i v H=some x/\frcHW x λH'=>k (.tuple []) H'
  | .makeSlice t l c=>onO (ρ l) λl=>onO (ρ c) λc=>∃x,Z1d P t l c H=some x/\Z6k x.1 λr=>frcHW x.2 λH'=>k r H'
  | .call c=>match c.callee with
   | .builtin .append=>match c.args.toList,c.argTypes.toList with
    |[s,x],[t,t2]=>onO (ρ s) λs=>onO (ρ x) λx=>∃y,Z0B P t t2 s x H=some y/\Z6k y.1 λr=>frcHW y.2 λH'=>k r H'
    |_,_=>False
   | .value _=>onO (callee ρ c) λ(g,args)=>cw g args H k
   |_=>∃x,aop P orc ρ o H=some x/\Z6k x.1 λr=>frcHW x.2 λH'=>k r H'
  |_=>∃x,aop P orc ρ o H=some x/\Z6k x.1 λr=>frcHW x.2 λH'=>k r H'
theorem Z98{ρ : Operand->Option AV}{o:Oper}(h:Zfi o=true)(c:Call)(e:o.op = .call c):callee ρ c=none:=by
 unfold Zfi at h
 simp only[e]at h
 unfold callee
 split
 ·rename_i f hf;simp[hf]at h
 ·rfl
theorem ZgB{orc:Orc}{ρ : Operand->Option AV}{o:Oper}{H:Z00}(h:∀c,o.op = .call c->callee ρ c=none):aop P orc ρ o H=(match Z02 P ρ H o with|some r=>some (r,H)|none=>Z31 P ρ H o):=by
 unfold aop
 split
 · rename_i g args hx
   split at hx
   ·rename_i c ho;rw[h c ho]at hx;cases hx
   ·cases hx
 ·rfl
theorem ZiD{orc:Orc}{cw:CW}(hcw:ZaV P orc cw){ρ : Operand->Option AV}{o:Oper}{H:Z00}{k:AV->Z00->Prop}(h:opW P orc cw ρ o H k):∃r H',aop P orc ρ o H=some (r,H')/\k r H':=by
 have gen:(∃x,aop P orc ρ o H=some x/\Z6k x.1 λr=>frcHW x.2 λH'=>k r H')->∃r H',aop P orc ρ o H=some (r,H')/\k r H':=λ⟨x,h1,h2⟩=>⟨x.1,x.2,h1,by rw[Z23,Z0m]at h2;exact h2⟩
 have eff:∀{x:AV×Z00},(∀c,o.op = .call c->callee ρ c=none)->Z02 P ρ H o=none->Z31 P ρ H o=some x->k x.1 x.2->∃r H',aop P orc ρ o H=some (r,H')/\k r H' :=
  λ{x} h1 h2 h3 h4=>⟨x.1,x.2,by rw[ZgB P h1,h2];exact h3,h4⟩
 unfold opW at h
 split at h
 · rename_i hp
   split at h
   ·exact gen h
   · obtain⟨r,h1,h⟩:=Z36 P h
     exact⟨r,H,by rw[ZgB P (Z98 hp),h1],h⟩
 · split at h
   · rename_i e
     split at h
     ·exact gen h
     · split at h
       · rename_i r hr
         rw[Z0r]at h
         exact⟨r,H,by rw[ZgB P (by simp[e]),hr],h⟩
       ·exact gen h
   · rename_i t a x e
     obtain⟨a',h1,h⟩:=Z01 h
     obtain⟨x',h2,h⟩:=Z01 h
     obtain⟨H',h3,h⟩:=Zja P h
     exact eff (x:=(.tuple [],H')) (by simp[e]) (by simp only[Z02,Z0p,e]) (by simp only[Z31,e,h1,h2,h3]) h
   · rename_i e
     obtain⟨x,h1,h⟩:=Z01 h
     rw[Z23,Z0m]at h
     exact eff (by simp[e]) (by simp only[Z02,Z0p,e]) h1 h
   · rename_i e
     obtain⟨x,h1,h⟩:=Z01 h
     rw[Z23,Z0m]at h
     exact eff (by simp[e]) (by simp only[Z02,Z0p,e]) h1 h
   · rename_i e
     obtain⟨x,h1,h⟩:=Z01 h
     rw[Z23,Z0m]at h
     exact eff (by simp[e]) (by simp only[Z02,Z0p,e]) h1 h
   · rename_i e
     obtain⟨x,h1,h⟩:=Z01 h
     rw[Z23,Z0m]at h
     exact eff (by simp[e]) (by simp only[Z02,Z0p,e]) h1 h
   · rename_i t m i v e
     obtain⟨m',h1,h⟩:=Z01 h
     obtain⟨i',h2,h⟩:=Z01 h
     obtain⟨v',h3,h⟩:=Z01 h
     obtain⟨x,h4,h⟩:=h
     rw[Z0m]at h
     exact eff (x:=(.tuple [],x)) (by simp[e]) (by simp only[Z02,Z0p,e]) (by simp only[Z31,e,h1,h2,h3,h4]) h
   · rename_i t m i v e
     obtain⟨m',h1,h⟩:=Z01 h
     obtain⟨i',h2,h⟩:=Z01 h
     obtain⟨v',h3,h⟩:=Z01 h
     obtain⟨x,h4,h⟩:=h
     rw[Z0m]at h
     exact eff (x:=(.tuple [],x)) (by simp[e]) (by simp only[Z02,Z0p,e]) (by simp only[Z31,e,h1,h2,h3,h4]) h
   · rename_i t l c e
     obtain⟨l',h1,h⟩:=Z01 h
     obtain⟨c',h2,h⟩:=Z01 h
     obtain⟨x,h3,h⟩:=h
     rw[Z23,Z0m]at h
     exact eff (by simp[e]) (by simp only[Z02,Z0p,e]) (by simp only[Z31,e,h1,h2];exact h3) h
   · rename_i c e
     split at h
     · rename_i hc
       split at h
       · rename_i s x t t2 ha ht
         obtain⟨s',h1,h⟩:=Z01 h
         obtain⟨x',h2,h⟩:=Z01 h
         obtain⟨y,h3,h⟩:=h
         rw[Z23,Z0m]at h
         exact eff (λc' e'=>by rw[e]at e';cases e';simp[callee,hc]) (by simp only[Z02,Z0p,e,hc]) (by simp only[Z31,e,hc,ha,ht,h1,h2];exact h3) h
       ·exact h.elim
     · rename_i f hc
       obtain⟨⟨g,args⟩,h1,h⟩:=Z01 h
       obtain⟨r,H',h2,h⟩:=hcw _ _ _ _ h
       exact⟨r,H',by unfold aop;simp only[e,h1];exact h2,h⟩
     ·exact gen h
   ·exact gen h
end W
end Go.Abs
end
section
namespace Go.Abs
open Go.RowKit
section reg
variable (P:Program) (gl:Z0n) (orc:Orc) (cw:CW)
def Zh0(ops:List Oper)(o:Oper)(tm:Tr)(A B:Prop):Prop :=
 match o.guard with
 |none=>A
 |some (j,want)=>onO ops[j]? λg=>onO g.dst λd=>onO (Z10 tm d) λv=>match v with
  | .bool b=>match want with
   |true=>(b=true->A)/\(b=false->B)
   |false=>(b=true->B)/\(b=false->A)
  |_=>B
theorem ZgZ{ops:List Oper}{o:Oper}{tm:Tr}{A B:Prop}(h:Zh0 ops o tm A B):(Z0x ops o tm=some true/\A)\/(Z0x ops o tm=some false/\B):=by
 unfold Zh0 at h
 unfold Z0x
 split at h
 ·rename_i e;exact .inl ⟨by simp only[e],h⟩
 · rename_i j want e
   obtain⟨g,h1,h⟩:=Z01 h
   obtain⟨d,h2,h⟩:=Z01 h
   obtain⟨v,h3,h⟩:=Z01 h
   split at h
   · rename_i b
     simp only[e,h1,h2,h3]
     cases b<;>cases want
     ·exact .inl ⟨rfl,h.2 rfl⟩
     ·exact .inr ⟨rfl,h.2 rfl⟩
     ·exact .inr ⟨rfl,h.1 rfl⟩
     ·exact .inl ⟨rfl,h.1 rfl⟩
   · rename_i hne
     refine .inr ⟨?_,h⟩
     simp only[e,h1,h2,h3]
noncomputable def Zjk(ops:List Oper)(l:List Oper):Tr->Z00->(Tr->Z00->Prop)->Prop :=
 List.rec (motive:=λ_=>Tr->Z00->(Tr->Z00->Prop)->Prop) (λtm H k=>k tm H)
  (λo _ ih tm H k=>Zh0 ops o tm (opW P orc cw (Z1C gl tm) o H λr H'=>onO (Z3r o.dst r tm) λtm'=>ih tm' H' k) (onO (Z3r o.dst (.tuple []) tm) λtm'=>ih tm' H k)) l
theorem Zew(ops:List Oper)(o:Oper)(l:List Oper)(tm:Tr)(H:Z00)(k:Tr->Z00->Prop) :
 Zjk P gl orc cw ops (o::l) tm H k=Zh0 ops o tm (opW P orc cw (Z1C gl tm) o H λr H'=>onO (Z3r o.dst r tm) λtm'=>Zjk P gl orc cw ops l tm' H' k) (onO (Z3r o.dst (.tuple []) tm) λtm'=>Zjk P gl orc cw ops l tm' H k):=rfl
theorem Z8N(hcw:ZaV P orc cw){ops:List Oper}:∀{l:List Oper}{tm:Tr}{H:Z00}{k:Tr->Z00->Prop},Zjk P gl orc cw ops l tm H k->∃tm' H',ZdN P gl orc ops l tm H=some (tm',H')/\k tm' H'
 |[],tm,H,k,h=>⟨tm,H,rfl,h⟩
 |o::l,tm,H,k,h=>by
  rw[Zew]at h
  rcases ZgZ h with ⟨h1,h⟩|⟨h1,h⟩
  · obtain⟨r,H',h2,h⟩:=ZiD P hcw h
    obtain⟨tm',h3,h⟩:=Z01 h
    obtain⟨tm2,H2,h4,h⟩:=Z8N hcw h
    exact⟨tm2,H2,by simp only[ZdN,h1,h2,Z1y,h3];exact h4,h⟩
  · obtain⟨tm',h3,h⟩:=Z01 h
    obtain⟨tm2,H2,h4,h⟩:=Z8N hcw h
    exact⟨tm2,H2,by simp only[ZdN,h1,h3];exact h4,h⟩
def Z7P(ops:List Oper)(env:List (Nat×AV))(o:Oper)(A B:Prop):Prop :=
 match o.guard with
 |none=>A
 |some (j,want)=>match ops[j]? with
  |some g=>match g.dst with
   |some d=>match Z1s d env with
    |some (.bool b)=>match want with
     |true=>(b=true->A)/\(b=false->B)
     |false=>(b=true->B)/\(b=false->A)
    |_=>B
   |none=>B
  |none=>B
theorem Z4B{ops:List Oper}{env:List (Nat×AV)}{o:Oper}{A B:Prop}(h:Z7P ops env o A B):(Z0a ops env o=true/\A)\/(Z0a ops env o=false/\B):=by
 unfold Z7P at h
 unfold Z0a
 split at h
 ·rename_i e;exact .inl ⟨by simp only[e],h⟩
 · rename_i j want e
   split at h
   · rename_i g e1
     split at h
     · rename_i d e2
       split at h
       · rename_i b e3
         simp only[e,e1,e2,e3]
         cases b<;>cases want
         ·exact .inl ⟨rfl,h.2 rfl⟩
         ·exact .inr ⟨rfl,h.2 rfl⟩
         ·exact .inr ⟨rfl,h.1 rfl⟩
         ·exact .inl ⟨rfl,h.1 rfl⟩
       · rename_i hne
         refine .inr ⟨?_,h⟩
         simp only[e,e1,e2]
     ·rename_i e2;exact .inr ⟨by simp only[e,e1,e2],h⟩
   ·rename_i e1;exact .inr ⟨by simp only[e,e1],h⟩
def ZkU(tm:Tr):List Nat->Option (List (Nat×AV))
 |[]=>some []
 |t::ts=>match Z10 tm t,ZkU tm ts with|some v,some e=>some ((t,v)::e)|_,_=>none
theorem ZfL{tm tmc:Tr}{vals:List (Option AV)}{ops:List Oper}{D:Nat->Bool}:∀{ts:List Nat},(∀t∈ts,Z15 vals D t ops 0 (Z10 tm t)=Z10 tmc t)->Z1r tm vals ops D ts=ZkU tmc ts
 |[],h=>rfl
 |t::ts,h=>by
  have ih:Z1r tm vals ops D ts=ZkU tmc ts:=ZfL λs hs=>h s (by simp[hs])
  simp only[Z1r,ZkU,h t (by simp),ih]
  rfl
theorem Zkf {ops : List Oper} {an : List Nat} {tm tmc : Tr} {i : Nat} {o : Oper} {vals : List (Option AV)} {done : Nat} (htm : Z0P ops an i o = true) (hV : VInv ops an tm vals done tmc) (hi : bit done i = false) (han : ∀ k, bit (an.getD i 0) k = true -> bit done k = true) :
  Z1r tm vals ops (bit (an.getD i 0)) (looks ops o)=ZkU tmc (looks ops o):=by
 simp only[Z0P,Y01]at htm
 refine ZfL λt ht=>?_
 have hw:=Y0k.1 htm.1 t ht
 rw[Z18 (D':=bit done) ops 0 _ (λk x hx hd=>?_),hV.cur t]
 simp only[Y02]
 cases hq:bit done k with
 |true =>
  rcases Z0Z ops 0 k x hw hx hd with h1|h1|h1
  ·rw[Y02]at h1;subst h1;rw[hi]at hq;cases hq
  ·rwa [Y02]at h1
  · rw[Y02]at h1
    have:=hV.cls k i hq h1
    rw[hi]at this;cases this
 |false =>
  cases hp:bit (an.getD i 0) k with
  |false=>rfl
  |true=>rw[han k hp]at hq;cases hq
abbrev ZbT:=Nat×Oper×List (Nat×AV)×AV
abbrev StK:=Tr->Nat->Z00->List Nat->Z00->List (Nat×Z00×List Nat)->List ZbT->Prop
def ZcK(ops:List Oper)(an:List Nat)(i:Nat)(tmc:Tr)(done:Nat)(base:Z00)(new:List Nat)(heap:Z00)(sts:List (Nat×Z00×List Nat))(recs:List ZbT)(k:StK):Prop :=
 onO ops[i]? λo=>onO (ZkU tmc (looks ops o)) λenv =>
  match !(bit done i)&&Y00 (Nat.land (an.getD i 0) done) (an.getD i 0) with
  |false=>False
  |true=>Z2l (Nat.lor done (2 ^ i)) λdone' =>
   match kind o with
   |2=>Z7P ops env o
    (onO (Z0v P (Z0L gl env) o) fun x => if Z0G heap.length (Z2M x.2 []) then Z6k (x.1 heap.length) fun r => frcHW (heap ++ [⟨true, heap.length, 0, x.2⟩]) fun H' =>
      onO (Z3r o.dst r tmc) λtmc=>k tmc done' base (new++[i]) H' sts recs else False)
    (onO (Z3r o.dst (.tuple []) tmc) λtmc=>k tmc done' base new heap sts recs)
   | 3 => if Z3S (an.getD i 0) new && Z0G heap.length (Z0R env []) then Z7P ops env o
     (opW P orc cw (Z0L gl env) o heap λr H'=>if Nat.ble heap.length H'.length then onO (Z3r o.dst r tmc) λtmc=>k tmc done' H' [] H' (sts++[(i,base,new)]) recs else False)
     (onO (Z3r o.dst (.tuple []) tmc) λtmc=>k tmc done' heap [] heap (sts++[(i,base,new)]) recs)
    else False
   |1=>Z7P ops env o
    (Z5W P (Z0L gl env) heap o λr=>onO (Z3r o.dst r tmc) λtmc=>k tmc done' base new heap sts ((i,o,env,r)::recs))
    (onO (Z3r o.dst (.tuple []) tmc) λtmc=>k tmc done' base new heap sts recs)
   |_=>Z7P ops env o
    (Z5W P (Z0L gl env) heap o λr=>onO (Z3r o.dst r tmc) λtmc=>k tmc done' base new heap sts recs)
    (onO (Z3r o.dst (.tuple []) tmc) λtmc=>k tmc done' base new heap sts recs)
structure RecOK (ops:List Oper) (an:List Nat) (tm:Tr) (vals:List (Option AV)) (done:Nat) (recs:List ZbT):Prop where
 at_:∀r∈recs,At ops an tm vals r.1 r.2.1 r.2.2.1 r.2.2.2
 all:∀(j:Nat)(o:Oper)(env:List (Nat×AV))(v:AV),bit done j=true->kind o=1->At ops an tm vals j o env v->Z0a ops env o=true->(j,o,env,v)∈recs
theorem RecOK.next {ops : List Oper} {an : List Nat} {tm tmc : Tr} {i : Nat} {o : Oper} {env : List (Nat × AV)} {vals : List (Option AV)} {done : Nat} {recs recs' : List ZbT} {r : AV} (h : RecOK ops an tm vals done recs) (hV : VInv ops an tm vals done tmc) (hi : bit done i = false) (ho : ops[i]? = some o)
  (henv:Z1r tm vals ops (bit (an.getD i 0)) (looks ops o)=some env) (hF:∀k,bit done k=true->∃o env v,At ops an tm vals k o env v)
  (hr:recs'=recs/\(kind o=1->Z0a ops env o=false)\/recs'=(i,o,env,r)::recs):RecOK ops an tm (vals.set i (some r)) (Nat.lor done (2 ^ i)) recs'/\∀k,bit (Nat.lor done (2 ^ i)) k=true->∃o env v,At ops an tm (vals.set i (some r)) k o env v:=by
 have hil:i<vals.length:=by rw[hV.vlen];exact (Y04.1 ho).1
 have hle:=hV.vle hi r
 have hat:At ops an tm (vals.set i (some r)) i o env r:=⟨ho,Z1J hle _ _ henv,by simp[hil]⟩
 refine⟨⟨λx hx=>?_,λj o' env' v hj hk ha hw=>?_⟩,λk hk=>?_⟩
 · rcases hr with ⟨rfl,_⟩|rfl
   ·exact (h.at_ x hx).mono hle
   · rcases Y06.1 hx with rfl|hx
     ·exact hat
     ·exact (h.at_ x hx).mono hle
 · rcases (Z46 _ _ _).1 hj with hj|rfl
   · obtain⟨o2,env2,v2,ha2⟩:=hF j hj
     obtain⟨rfl,rfl,rfl⟩:=ha.uniq (ha2.mono hle)
     have:=h.all j _ _ _ hj hk ha2 hw
     rcases hr with ⟨rfl,_⟩|rfl
     ·exact this
     ·exact List.mem_cons_of_mem _ this
   · obtain⟨rfl,rfl,rfl⟩:=ha.uniq hat
     rcases hr with ⟨rfl,h1⟩|rfl
     ·rw[h1 hk]at hw;cases hw
     ·exact List.mem_cons_self ..
 · rcases (Z46 _ _ _).1 hk with hk|rfl
   · obtain⟨o2,env2,v2,ha2⟩:=hF k hk
     exact⟨o2,env2,v2,ha2.mono hle⟩
   ·exact⟨o,env,r,hat⟩
def shp:Tr->Tr->Prop
 | .leaf,.leaf=>True
 | .node _ l r,.node _ l2 r2=>shp l l2/\shp r r2
 |_,_=>False
theorem shp.refl:∀t:Tr,shp t t
 | .leaf=>trivial
 | .node _ l r=>⟨shp.refl l,shp.refl r⟩
theorem shp.symm:∀{t u:Tr},shp t u->shp u t
 | .leaf,.leaf,_=>trivial
 | .node _ _ _,.node _ _ _,h=>⟨shp.symm h.1,shp.symm h.2⟩
 | .leaf,.node _ _ _,h=>h.elim
 | .node _ _ _,.leaf,h=>h.elim
theorem shp.trans:∀{t u v:Tr},shp t u->shp u v->shp t v
 | .leaf,.leaf,.leaf,_,_=>trivial
 | .node _ _ _,.node _ _ _,.node _ _ _,h,k=>⟨h.1.trans k.1,h.2.trans k.2⟩
 | .leaf,.node _ _ _,_,h,_=>h.elim
 | .node _ _ _,.leaf,_,h,_=>h.elim
 | .leaf,.leaf,.node _ _ _,_,k=>k.elim
 | .node _ _ _,.node _ _ _,.leaf,_,k=>k.elim
theorem Z8G:∀{t:Tr}{n:Nat}{v:AV}{t':Tr},Zc8 t n v=some t'->shp t t'
 | .leaf,n,v,t',h=>by simp[Zc8]at h
 | .node x l r,0,v,t',h=>by
  simp only[Zc8]at h
  split at h<;>simp at h
  subst h;exact⟨shp.refl l,shp.refl r⟩
 | .node x l r,n+1,v,t',h=>by
  simp only[Zc8]at h
  split at h
  · split at h<;>simp at h
    subst h;rename_i l' hl;exact⟨Z8G hl,shp.refl r⟩
  · split at h<;>simp at h
    subst h;rename_i r' hr;exact⟨shp.refl l,Z8G hr⟩
theorem Zcn{d:Option Tmp}{v:AV}{t t':Tr}(h:Z3r d v t=some t'):shp t t':=by
 cases d with
 |none=>simp[Z3r]at h;subst h;exact shp.refl t
 |some d=>exact Z8G h
theorem Z7e{vals:List (Option AV)}:∀{l:List Oper}{i:Nat}{tm tm':Tr},Z1z vals l i tm=some tm'->shp tm tm'
 |[],i,tm,tm',h=>by simp[Z1z]at h;subst h;exact shp.refl tm
 |o::l,i,tm,tm',h=>by
  simp only[Z1z]at h
  split at h<;>try (simp at h;done)
  split at h<;>try (simp at h;done)
  rename_i tm1 hp
  exact (Zcn hp).trans (Z7e h)
theorem Zb5:∀{t u:Tr},shp t u->(∀n,Z10 t n=Z10 u n)->(∀n,tex t n=tex u n)->t=u
 | .leaf,.leaf,_,_,_=>rfl
 | .node x l r,.node y l2 r2,h,hg,hx=>by
  have e0:x=y:=by
   have h1:=hg 0
   have h2:=hx 0
   simp only[Z10,tex]at h1 h2
   cases x<;>cases y<;>simp_all
  have hl:l=l2:=Zb5 h.1 (λn=>by
   have:=hg (2*n+1)
   have e:Nat.mod (2*n) 2=0:=by show (2*n) % 2=0;omega
   have e2:Nat.div (2*n) 2=n:=by show (2*n) / 2=n;omega
   simpa only[Z10,e,e2]using this) (λn=>by
   have:=hx (2*n+1)
   have e:Nat.mod (2*n) 2=0:=by show (2*n) % 2=0;omega
   have e2:Nat.div (2*n) 2=n:=by show (2*n) / 2=n;omega
   simpa only[tex,e,e2]using this)
  have hr:r=r2:=Zb5 h.2 (λn=>by
   have:=hg (2*n+1+1)
   have e:Nat.mod (2*n+1) 2=1:=by show (2*n+1) % 2=1;omega
   have e2:Nat.div (2*n+1) 2=n:=by show (2*n+1) / 2=n;omega
   simpa only[Z10,e,e2]using this) (λn=>by
   have:=hx (2*n+1+1)
   have e:Nat.mod (2*n+1) 2=1:=by show (2*n+1) % 2=1;omega
   have e2:Nat.div (2*n+1) 2=n:=by show (2*n+1) / 2=n;omega
   simpa only[tex,e,e2]using this)
  rw[e0,hl,hr]
 | .leaf,.node _ _ _,h,_,_=>h.elim
 | .node _ _ _,.leaf,h,_,_=>h.elim
structure DW (ops:List Oper) (an:List Nat) (tm tmc:Tr) (s:DSt) (recs:List ZbT):Prop where
 v:VInv ops an tm s.vals s.done tmc
 r:RecOK ops an tm s.vals s.done recs
 f:∀k,bit s.done k=true->∃o env v,At ops an tm s.vals k o env v
 ex:∀t,tex tmc t=tex tm t
 sh:shp tm tmc
theorem DW.next {ops : List Oper} {an : List Nat} {tm tmc tmc' : Tr} {s : DSt} {recs recs' : List ZbT} {i : Nat} {o : Oper} {env : List (Nat × AV)} {r : AV} {base heap : Z00} {new : List Nat} {sts : List (Nat × Z00 × List Nat)} (h : DW ops an tm tmc s recs) (ho : ops[i]? = some o) (hi : bit s.done i = false) (han : ∀ k, bit (an.getD i 0) k = true -> bit s.done k = true)
  (hb:an.getD i 0<2 ^ i) (htm:Z0P ops an i o=true) (henv:Z1r tm s.vals ops (bit (an.getD i 0)) (looks ops o)=some env) (hp:Z3r o.dst r tmc=some tmc') (hr:recs'=recs/\(kind o=1->Z0a ops env o=false)\/recs'=(i,o,env,r)::recs) :
  DW ops an tm tmc' ⟨s.vals.set i (some r),Nat.lor s.done (2 ^ i),base,new,heap,sts⟩ recs':=by
 obtain⟨g1,g2⟩:=h.r.next h.v hi ho henv h.f hr
 exact⟨h.v.next ho hp hi han hb htm,g1,g2,λt=>by rw[Zcm hp t];exact h.ex t,h.sh.trans (Zcn hp)⟩
theorem ZfP (hcw : ZaV P orc cw) {ops : List Oper} {an : List Nat} {tm tmc : Tr} {i : Nat} {s : DSt} {recs : List ZbT} {k : StK} (hW : DW ops an tm tmc s recs) (htm : ∀ i o, ops[i]? = some o -> Z0P ops an i o = true) (hb : ∀ i, i < ops.length -> an.getD i 0 < 2 ^ i)
  (h:ZcK P gl orc cw ops an i tmc s.done s.base s.new s.heap s.sts recs k):∃s' tmc' recs',Z4r P gl orc ops an tm i s=some s'/\DW ops an tm tmc' s' recs'/\k tmc' s'.done s'.base s'.new s'.heap s'.sts recs':=by
 unfold ZcK at h
 obtain⟨o,ho,h⟩:=Z01 h
 obtain⟨env,henvT,h⟩:=Z01 h
 split at h
 ·exact h.elim
 · rename_i hc
   simp only[Y01,Y0i]at hc
   obtain⟨hi,hsub⟩:=hc
   have han:=Zcx hsub
   have htm':=htm i o ho
   have hb':=hb i (Y04.1 ho).1
   have henv:Z1r tm s.vals ops (bit (an.getD i 0)) (looks ops o)=some env:=by rw[Zkf htm' hW.v hi han,henvT]
   rw[Z3a]at h
   unfold Z4r
   simp only[ho,henv,hi,Y03,if_false]
   split at h
   · rename_i hk
     simp only[hk]
     have hk1:∀{b:Bool},kind o=1->Z0a ops env o=b:=λe=>by rw[hk]at e;cases e
     rcases Z4B h with ⟨h1,h⟩|⟨h1,h⟩
     · obtain⟨⟨mk,body⟩,h2,h⟩:=Z01 h
       split at h
       · rename_i h3
         rw[Z23,Z0m]at h
         obtain⟨tmc',h4,h⟩:=Z01 h
         simp only at h3
         exact⟨_,tmc',recs,by simp only[h1,if_true,h2];rw[if_pos h3,Z1y],hW.next ho hi han hb' htm' henv h4 (.inl ⟨rfl,hk1⟩),h⟩
       ·exact h.elim
     · obtain⟨tmc',h4,h⟩:=Z01 h
       exact⟨_,tmc',recs,by simp only[h1,Y03,if_false],hW.next ho hi han hb' htm' henv h4 (.inl ⟨rfl,hk1⟩),h⟩
   · rename_i hk
     simp only[hk]
     have hk1:∀{b:Bool},kind o=1->Z0a ops env o=b:=λe=>by rw[hk]at e;cases e
     split at h
     · rename_i h0
       rcases Z4B h with ⟨h1,h⟩|⟨h1,h⟩
       · obtain⟨r,H',h2,h⟩:=ZiD P hcw h
         split at h
         · rename_i h3
           obtain⟨tmc',h4,h⟩:=Z01 h
           exact⟨_,tmc',recs,by rw[if_pos h0];simp only[h1,if_true,h2,Z1y];rw[if_pos h3],hW.next ho hi han hb' htm' henv h4 (.inl ⟨rfl,hk1⟩),h⟩
         ·exact h.elim
       · obtain⟨tmc',h4,h⟩:=Z01 h
         exact⟨_,tmc',recs,by rw[if_pos h0];simp only[h1,Y03,if_false],hW.next ho hi han hb' htm' henv h4 (.inl ⟨rfl,hk1⟩),h⟩
     ·exact h.elim
   · rename_i hk
     simp only[hk]
     rcases Z4B h with ⟨h1,h⟩|⟨h1,h⟩
     · obtain⟨r,h2,h⟩:=Z36 P h
       obtain⟨tmc',h4,h⟩:=Z01 h
       exact⟨_,tmc',_,by simp only[h1,if_true,h2,Z1y],hW.next ho hi han hb' htm' henv h4 (.inr rfl),h⟩
     · obtain⟨tmc',h4,h⟩:=Z01 h
       exact⟨_,tmc',recs,by simp only[h1,Y03,if_false],hW.next ho hi han hb' htm' henv h4 (.inl ⟨rfl,λ_=>h1⟩),h⟩
   · rename_i hk2 hk3 hk1
     have key:∀{A B C:Option DSt},(match kind o with|2=>A|3=>B|_=>C)=C:=by
      intro A B C
      split
      ·rename_i e;exact (hk2 e).elim
      ·rename_i e;exact (hk3 e).elim
      ·rfl
     rcases Z4B h with ⟨h1,h⟩|⟨h1,h⟩
     · obtain⟨r,h2,h⟩:=Z36 P h
       obtain⟨tmc',h4,h⟩:=Z01 h
       exact⟨_,tmc',recs,key.trans (by simp only[h1,if_true,h2,Z1y]),hW.next ho hi han hb' htm' henv h4 (.inl ⟨rfl,λe=>(hk1 e).elim⟩),h⟩
     · obtain⟨tmc',h4,h⟩:=Z01 h
       exact⟨_,tmc',recs,key.trans (by simp only[h1,Y03,if_false]),hW.next ho hi han hb' htm' henv h4 (.inl ⟨rfl,λe=>(hk1 e).elim⟩),h⟩
noncomputable def ZfQ(ops:List Oper)(an:List Nat)(l:List Nat):Tr->Nat->Z00->List Nat->Z00->List (Nat×Z00×List Nat)->List ZbT->StK->Prop :=
 List.rec (motive:=λ_=>Tr->Nat->Z00->List Nat->Z00->List (Nat×Z00×List Nat)->List ZbT->StK->Prop) (λtmc done base new heap sts recs k=>k tmc done base new heap sts recs)
  (λi _ ih tmc done base new heap sts recs k=>ZcK P gl orc cw ops an i tmc done base new heap sts recs λtmc done base new heap sts recs=>ih tmc done base new heap sts recs k) l
theorem Zaq (hcw : ZaV P orc cw) {ops : List Oper} {an : List Nat} {tm : Tr} (htm : ∀ i o, ops[i]? = some o -> Z0P ops an i o = true) (hb : ∀ i, i < ops.length -> an.getD i 0 < 2 ^ i) : ∀ {l : List Nat} {tmc : Tr} {s : DSt} {recs : List ZbT} {k : StK}, DW ops an tm tmc s recs -> ZfQ P gl orc cw ops an l tmc s.done s.base s.new s.heap s.sts recs k ->
  ∃s' tmc' recs',Z3L P gl orc ops an tm l s=some s'/\DW ops an tm tmc' s' recs'/\k tmc' s'.done s'.base s'.new s'.heap s'.sts recs'
 |[],tmc,s,recs,k,hW,h=>⟨s,tmc,recs,rfl,hW,h⟩
 |i::l,tmc,s,recs,k,hW,h=>by
  replace h:ZcK P gl orc cw ops an i tmc s.done s.base s.new s.heap s.sts recs λtmc done base new heap sts recs=>ZfQ P gl orc cw ops an l tmc done base new heap sts recs k:=h
  obtain⟨s1,t1,r1,h1,w1,h⟩:=ZfP P gl orc cw hcw hW htm hb h
  obtain⟨s2,t2,r2,h2,w2,h⟩:=Zaq hcw htm hb w1 h
  exact⟨s2,t2,r2,by simp only[Z3L,h1];exact h2,w2,h⟩
noncomputable def Z4j(o:Oper)(env:List (Nat×AV))(v:AV)(j:Nat)(an:List Nat)(aj:Nat)(K:Prop)(l:List (Nat×Z00×List Nat)):Z00->Prop :=
 List.rec (motive:=λ_=>Z00->Prop) (λH=>Z5W P (Z0L gl env) H o λu=>u=v/\K)
  (fun p _ ih H => Prod.rec (fun e q => Prod.rec (fun B _ => match bit aj e with
    |true=>ih H
    |false=>Z5W P (Z0L gl env) B o λu=>u=v/\(match bit (an.getD e 0) j with|true=>K|false=>ih H)) q) p) l
theorem Z2L{o:Oper}{env:List (Nat×AV)}{v:AV}{j:Nat}{an:List Nat}{aj:Nat}{K:Prop}:∀{l:List (Nat×Z00×List Nat)}{H:Z00},Z4j P gl o env v j an aj K l H->stages P gl o env v j an aj veq l H=true/\K
 |[],H,h=>by
  obtain⟨u,h1,h2,hK⟩:=Z36 P h
  subst h2
  exact⟨by simp only[stages,h1,Z1u],hK⟩
 |(e,B,nw)::l,H,h=>by
  replace h:(match bit aj e with
   |true=>Z4j P gl o env v j an aj K l H
   |false=>Z5W P (Z0L gl env) B o λu=>u=v/\(match bit (an.getD e 0) j with|true=>K|false=>Z4j P gl o env v j an aj K l H)):=h
  simp only[stages]
  split at h
  ·rename_i hb;rw[if_pos hb];exact Z2L h
  · rename_i hb
    rw[if_neg (by rw[hb];simp)]
    obtain⟨u,h3,h4,h2⟩:=Z36 P h
    subst h4
    simp only[h3,Z1u,Bool.true_and,Y0d]
    split at h2
    ·rename_i hc;exact⟨.inl hc,h2⟩
    ·exact⟨.inr (Z2L h2).1,(Z2L h2).2⟩
noncomputable def Z4K(F:Z00->Z00)(o:Oper)(env:List (Nat×AV))(v:AV)(j:Nat)(an:List Nat)(aj:Nat)(K:Prop)(l:List (Nat×Z00×List Nat)):Z00->Prop :=
 List.rec (motive:=λ_=>Z00->Prop) (λH=>frcHW (F H) λH=>Z5W P (Z0L gl env) H o λu=>u=v/\K)
  (fun p _ ih H => Prod.rec (fun e q => Prod.rec (fun B _ => match bit aj e with
    |true=>ih H
    |false=>frcHW (F B) λB=>Z5W P (Z0L gl env) B o λu=>u=v/\(match bit (an.getD e 0) j with|true=>K|false=>ih H)) q) p) l
theorem Z35{F:Z00->Z00}{o:Oper}{env:List (Nat×AV)}{v:AV}{j:Nat}{an:List Nat}{aj:Nat}{K:Prop}:∀{l:List (Nat×Z00×List Nat)}{H:Z00},Z4K P gl F o env v j an aj K l H->stages P gl o env v j an aj veq (ZaT F l) (F H)=true/\K
 |[],H,h=>by
  replace h:frcHW (F H) λH=>Z5W P (Z0L gl env) H o λu=>u=v/\K:=h
  rw[Z0m]at h
  obtain⟨u,h1,h2,hK⟩:=Z36 P h
  subst h2
  exact⟨by simp only[ZaT,stages,h1,Z1u],hK⟩
 |(e,B,nw)::l,H,h=>by
  replace h:(match bit aj e with
   |true=>Z4K P gl F o env v j an aj K l H
   |false=>frcHW (F B) λB=>Z5W P (Z0L gl env) B o λu=>u=v/\(match bit (an.getD e 0) j with|true=>K|false=>Z4K P gl F o env v j an aj K l H)):=h
  simp only[ZaT,stages]
  split at h
  ·rename_i hb;rw[if_pos hb];exact Z35 h
  · rename_i hb
    rw[if_neg (by rw[hb];simp)]
    rw[Z0m]at h
    obtain⟨u,h3,h4,h2⟩:=Z36 P h
    subst h4
    simp only[h3,Z1u,Bool.true_and,Y0d]
    split at h2
    ·rename_i hc;exact⟨.inl hc,h2⟩
    ·exact⟨.inr (Z35 h2).1,(Z35 h2).2⟩
noncomputable def Z4L(an:List Nat)(sts:List (Nat×Z00×List Nat))(base:Z00)(nw:List Nat)(heap:Z00)(K:Prop)(l:List ZbT):Prop :=
 List.rec (motive:=λ_=>Prop) K (λr _ ih=>Prod.rec (λj q=>Prod.rec (λo q=>Prod.rec (λenv v=>match Z0G base.length (Z0R env []) with
  |true=>Z4j P gl o env v j an (an.getD j 0) ih sts base
  |false=>Z4K P gl (Z2A (an.getD j 0) base nw heap) o env v j an (an.getD j 0) ih sts base) q) q) r) l
theorem Z6y{an:List Nat}{sts:List (Nat×Z00×List Nat)}{base heap:Z00}{nw:List Nat}{K:Prop}:∀{l:List ZbT},Z4L P gl an sts base nw heap K l->(∀r∈l,(stages P gl r.2.1 r.2.2.1 r.2.2.2 r.1 an (an.getD r.1 0) veq sts base || stages P gl r.2.1 r.2.2.1 r.2.2.2 r.1 an (an.getD r.1 0) veq (ZaT (Z2A (an.getD r.1 0) base nw heap) sts) (Z2A (an.getD r.1 0) base nw heap base))=true)/\K
 |[],h=>⟨λr hr=>by simp at hr,h⟩
 |(j,o,env,v)::l,h=>by
  replace h:(match Z0G base.length (Z0R env []) with
   |true=>Z4j P gl o env v j an (an.getD j 0) (Z4L P gl an sts base nw heap K l) sts base
   |false=>Z4K P gl (Z2A (an.getD j 0) base nw heap) o env v j an (an.getD j 0) (Z4L P gl an sts base nw heap K l) sts base):=h
  have h':(stages P gl o env v j an (an.getD j 0) veq sts base || stages P gl o env v j an (an.getD j 0) veq (ZaT (Z2A (an.getD j 0) base nw heap) sts) (Z2A (an.getD j 0) base nw heap base))=true/\Z4L P gl an sts base nw heap K l:=by
   split at h
   · obtain⟨h1,h2⟩:=Z2L P gl h
     exact⟨by rw[h1];rfl,h2⟩
   · obtain⟨h1,h2⟩:=Z35 P gl h
     exact⟨by rw[h1,Bool.or_true],h2⟩
  obtain⟨h1,h2⟩:=h'
  obtain⟨h3,h4⟩:=Z6y h2
  refine⟨λr hr=>?_,h4⟩
  rcases Y06.1 hr with rfl|hr
  ·exact h1
  ·exact h3 r hr
noncomputable def Zb1(an:List Nat)(sts:List (Nat×Z00×List Nat))(base:Z00)(K:Prop)(l:List ZbT):Prop :=
 List.rec (motive:=λ_=>Prop) K (λr _ ih=>Prod.rec (λj q=>Prod.rec (λo q=>Prod.rec (λenv v=>Z4j P gl o env v j an (an.getD j 0) ih sts base) q) q) r) l
theorem Z7X{an:List Nat}{sts:List (Nat×Z00×List Nat)}{base:Z00}{K:Prop}:∀{l:List ZbT},Zb1 P gl an sts base K l->(∀r∈l,stages P gl r.2.1 r.2.2.1 r.2.2.2 r.1 an (an.getD r.1 0) veq sts base=true)/\K
 |[],h=>⟨λr hr=>by simp at hr,h⟩
 |(j,o,env,v)::l,h=>by
  replace h:Z4j P gl o env v j an (an.getD j 0) (Zb1 P gl an sts base K l) sts base:=h
  obtain⟨h1,h2⟩:=Z2L P gl h
  obtain⟨h3,h4⟩:=Z7X h2
  refine⟨λr hr=>?_,h4⟩
  rcases Y06.1 hr with rfl|hr
  ·exact h1
  ·exact h3 r hr
theorem Z5g {ops : List Oper} {an : List Nat} {tm tmc : Tr} {s : DSt} {recs : List ZbT} (hW : DW ops an tm tmc s recs) (hr : ∀ r ∈ recs, (stages P gl r.2.1 r.2.2.1 r.2.2.2 r.1 an (an.getD r.1 0) veq s.sts s.base || stages P gl r.2.1 r.2.2.1 r.2.2.2 r.1 an (an.getD r.1 0) veq (ZaT (Z2A (an.getD r.1 0) s.base s.new s.heap) s.sts) (Z2A (an.getD r.1 0) s.base s.new s.heap s.base)) = true) :
  ∀(l:List Oper)(j:Nat),(∀i,i<l.length->bit s.done (j+i)=true/\ops[j+i]? = l[i]?)->Z1a P gl tm ops an s l j=true
 |[],j,hd=>rfl
 |o::l,j,hd=>by
  simp only[Z1a,Y01]
  refine⟨?_,Z5g hW hr l (j+1) λi hi=>?_⟩
  · split
    · rename_i hk
      obtain⟨h1,h2⟩:=hd 0 (by simp)
      simp only[Y0c]at h1 h2
      obtain⟨o2,env,v,hat⟩:=hW.f j h1
      have:o2=o:=by have:=hat.op;rw[h2]at this;simpa using this.symm
      subst this
      simp only[hat.val,hat.env]
      split
      · rename_i hw
        exact hr _ (hW.r.all j o2 env v h1 (Y05 hk) hat hw)
      ·rfl
    ·rfl
  · have:=hd (i+1) (by simpa using hi)
    rw[show j+(i+1)=j+1+i from by omega]at this
    simpa using this
def Z6K:List Oper->Bool
 |[]=>true
 |o::l=>Nat.ble (kind o) 1&&Z6K l
theorem Z81:∀{ops:List Oper}{i:Nat}{o:Oper},Z6K ops=true->ops[i]? = some o->kind o<=1
 |[],i,o,h,e=>by simp at e
 |x::l,0,o,h,e=>by simp[Z6K]at h e;subst e;exact h.1
 |x::l,i+1,o,h,e=>by simp[Z6K]at h e;exact Z81 h.2 e
structure QI (ops:List Oper) (an:List Nat) (tm:Tr) (H0:Z00) (s:DSt):Prop where
 base:s.base=H0
 heap:s.heap=H0
 sts:s.sts=[]
 done:∀i,bit s.done i=true->∃o env v,At ops an tm s.vals i o env v/\(Z0a ops env o=true->Z02 P (Z0L gl env) H0 o=some v)
 vdone:∀(i:Nat)(v:AV),s.vals[i]? = some (some v)->bit s.done i=true
theorem QI.start(ops:List Oper)(an:List Nat)(tm:Tr)(H:Z00):QI P gl ops an tm H ⟨Z14 ops,0,H,[],H,[]⟩ :=
 ⟨rfl,rfl,rfl,λi h=>(by rw[Z1i]at h;cases h),λi v h=>(Z2x ops i v h).elim⟩
theorem Zib{ops:List Oper}{an:List Nat}{tm:Tr}{H0:Z00}{i:Nat}{s s':DSt}(hq:Z6K ops=true)(hl:s.vals.length=ops.length)(h:QI P gl ops an tm H0 s)(e:Z4r P gl orc ops an tm i s=some s'):QI P gl ops an tm H0 s'/\s'.vals.length=ops.length:=by
 unfold Z4r at e
 split at e
 ·cases e
 · rename_i o ho
   have hk:=Z81 hq ho
   have hil:i<s.vals.length:=by rw[hl];exact (Y04.1 ho).1
   split at e
   ·cases e
   · rename_i env henv
     split at e
     ·cases e
     · rename_i hb
       have hnew:∀(v:AV),(Z0a ops env o=true->Z02 P (Z0L gl env) H0 o=some v)->QI P gl ops an tm H0 ⟨s.vals.set i (some v),Nat.lor s.done (2 ^ i),s.base,s.new,s.heap,s.sts⟩/\(s.vals.set i (some v)).length=ops.length:=by
        intro v hv
        have hle:VLe s.vals (s.vals.set i (some v)):=Zb8 λu hu=>hb (h.vdone i u hu)
        refine⟨⟨h.base,h.heap,h.sts,λj hj=>?_,λj u hu=>?_⟩,by simpa using hl⟩
        · rcases (Z46 _ _ _).1 hj with hj|rfl
          · obtain⟨o',env',v',h1,h2⟩:=h.done j hj
            exact⟨o',env',v',h1.mono hle,h2⟩
          ·exact⟨o,env,v,⟨ho,Z1J hle _ _ henv,by simp[hil]⟩,hv⟩
        · refine (Z46 _ _ _).2 ?_
          simp only[Y0o]at hu
          split at hu
          ·rename_i e;exact .inr e
          ·exact .inl (h.vdone j u hu)
       split at e
       ·rename_i hk2;omega
       ·rename_i hk2;omega
       · split at e
         · rename_i hw
           split at e
           · rename_i r hr
             rw[Z1y]at e
             simp at e;subst e
             rw[h.heap]at hr
             exact hnew r λ_=>hr
           ·cases e
         · rename_i hw
           simp at e;subst e
           exact hnew _ λh=>absurd h hw
theorem ZcL{ops:List Oper}{an:List Nat}{tm:Tr}{H0:Z00}(hq:Z6K ops=true):∀{l:List Nat}{s s':DSt},s.vals.length=ops.length->QI P gl ops an tm H0 s->Z3L P gl orc ops an tm l s=some s'->QI P gl ops an tm H0 s'
 |[],s,s',hl,h,e=>by simp[Z3L]at e;subst e;exact h
 |i::l,s,s',hl,h,e=>by
  simp only[Z3L]at e
  split at e
  · rename_i s1 h1
    obtain⟨g1,g2⟩:=Zib P gl orc hq hl h h1
    exact ZcL hq g2 g1 e
  ·cases e
theorem Z5D{ops:List Oper}{an:List Nat}{tm:Tr}{H0:Z00}{s:DSt}(h:QI P gl ops an tm H0 s):∀(l:List Oper)(j:Nat),(∀i,i<l.length->bit s.done (j+i)=true/\∃o,ops[j+i]? = some o/\l[i]? = some o)->Z1a P gl tm ops an s l j=true
 |[],j,hd=>rfl
 |o::l,j,hd=>by
  simp only[Z1a,Y01]
  refine⟨?_,Z5D h l (j+1) λi hi=>?_⟩
  · split
    · obtain⟨h1,o',h2,h3⟩:=hd 0 (by simp)
      simp only[Y0c]at h1 h2
      simp at h3;subst h3
      obtain⟨o2,env,v,hat,hv⟩:=h.done j h1
      have:o2=o:=by have:=hat.op;rw[h2]at this;simpa using this.symm
      subst this
      simp only[hat.val,hat.env]
      split
      · rename_i hw
        rw[h.sts,h.base]
        simp only[stages,hv hw,Z1u,Bool.true_or]
      ·rfl
    ·rfl
  · obtain⟨h1,o',h2,h3⟩:=hd (i+1) (by simpa using hi)
    rw[show j+(i+1)=j+1+i from by omega]at h1 h2
    exact⟨h1,o',h2,by simpa using h3⟩
def frcNL:List Nat->(List Nat->Prop)->Prop
 |[],k=>k []
 |n::l,k=>Z2l n λn=>frcNL l λl=>k (n::l)
theorem Z9c:∀(l:List Nat)(k:List Nat->Prop),frcNL l k=k l
 |[],k=>rfl
 |n::l,k=>by simp only[frcNL,Z3a,Z9c l]
noncomputable def ZfR(ops:List Oper)(tm:Tr)(H:Z00)(k:Tr->Z00->Prop):Prop :=
 frcNL (Z0T ops []) λan =>
 match Z4H ops an ops 0&&Z4s an 0 with
 |true=>frcNL (Z6N ops an) λord=>ZfQ P gl orc cw ops an ord tm 0 H [] H [] [] λtmc done base nw heap sts recs =>
  match Z3N an (Z0d sts)&&Y00 (done+1) (2 ^ ops.length) with
  |true=>match Z6K ops with
   |true=>k tmc heap
   |false=>match nw with
    |[]=>Zb1 P gl an sts base (k tmc heap) recs
    |_::_=>Z4L P gl an sts base nw heap (k tmc heap) recs
  |false=>False
 |false=>False
theorem Z9L{ops:List Oper}{an:List Nat}:∀{l:List Oper}{j i:Nat}{o:Oper},Z4H ops an l j=true->l[i]? = some o->Z0P ops an (j+i) o=true
 |[],j,i,o,h,ho=>by simp at ho
 |x::l,j,i,o,h,ho=>by
  simp only[Z4H,Y01]at h
  cases i with
  |zero=>simp at ho;subst ho;exact h.1
  |succ i=>have:=Z9L h.2 (by simpa using ho);rwa [show j+1+i=j+(i+1) from by omega]at this
theorem ZcN(hcw:ZaV P orc cw){ops:List Oper}{tm:Tr}{H:Z00}{k:Tr->Z00->Prop}(h:ZfR P gl orc cw ops tm H k):∃tm' H',Z61 P gl orc ops tm H=some (tm',H')/\k tm' H':=by
 unfold ZfR at h
 rw[Z9c]at h
 split at h
 · rename_i h1
   have h1':=h1
   simp only[Y01]at h1'
   have htm:∀i o,ops[i]? = some o->Z0P ops (Z0T ops []) i o=true:=λi o ho=>by have:=Z9L h1'.1 ho;rwa [Y02]at this
   have hb:∀i,i<ops.length->(Z0T ops []).getD i 0<2 ^ i:=λi hi=>by have:=Z1X _ 0 i h1'.2 (by rw[Z30];exact hi);rwa [Y02]at this
   rw[Z9c]at h
   obtain⟨s,tmc,recs,h2,hW,h⟩:=Zaq P gl orc cw hcw (tm:=tm) (tmc:=tm) (s:=⟨Z14 ops,0,H,[],H,[]⟩) (recs:=[]) htm hb
    ⟨VInv.start ops _ tm,⟨λr hr=>by simp at hr,λj o env v hj=>by rw[Z1i]at hj;cases hj⟩,λk hk=>(by rw[Z1i]at hk;cases hk),λt=>rfl,shp.refl tm⟩ h
   split at h
   · rename_i h3
     have h3':=h3
     simp only[Y01]at h3'
     have hdone:=Y05 h3'.2
     have hall:∀i,i<ops.length->bit s.done i=true:=λi hi=>by rw[ZcS hdone];simpa using hi
     have hfin:∃tm',Z1z s.vals ops 0 tm=some tm':=Z3I ops 0 tm (λk hk=>by rw[Y02];exact hW.v.known k (hall k hk)) λo ho d hd=>by
      obtain⟨k,hk,hko⟩:=Y0n.1 ho
      obtain⟨x,hx⟩:=hW.v.dst k o d (hall k hk) (by rw[<- hko];exact Y07 hk) hd
      rw[<- hW.ex];exact Z68 _ _ _ hx
     obtain⟨tm',hfin⟩:=hfin
     have fin:Z1a P gl tm ops (Z0T ops []) s ops 0=true->Z61 P gl orc ops tm H=some (tm',s.heap):=by
      intro h4
      unfold Z61
      simp only[h1,if_true,h2,h3'.1,h3'.2,h4,Y0g,hfin]
     have hget:∀t,Z10 tm' t=Z10 tmc t:=λt=>by
      rw[(Z2w ops 0 tm tm' hfin).2 t _ rfl,<- hW.v.cur t]
      exact Z18 ops 0 _ λk o hk _=>by
       rw[Y02]
       exact (hall k (Y04.1 hk).1).symm
     have hex:∀t,tex tm' t=tex tmc t:=λt=>by rw[Z4n hfin t,hW.ex t]
     have heq:tm'=tmc:=Zb5 ((Z7e hfin).symm.trans hW.sh) hget hex
     subst heq
     split at h
     · rename_i hq
       refine⟨tm',s.heap,fin ?_,h⟩
       have hqi:=ZcL P gl orc hq (Z1A ops) (QI.start P gl ops (Z0T ops []) tm H) h2
       exact Z5D P gl hqi ops 0 λi hi=>⟨by rw[Y02];exact hall i hi,ops[i],by simp[hi],by simp[hi]⟩
     · split at h
       · obtain⟨h4,h⟩:=Z7X P gl h
         exact⟨tm',s.heap,fin (Z5g P gl hW (λr hr=>by rw[h4 r hr];rfl) ops 0 λi hi=>⟨by rw[Y02];exact hall i hi,by rw[Y02]⟩),h⟩
       · skip
         obtain⟨h4,h⟩:=Z6y P gl h
         exact⟨tm',s.heap,fin (Z5g P gl hW h4 ops 0 λi hi=>⟨by rw[Y02];exact hall i hi,by rw[Y02]⟩),h⟩
   ·exact h.elim
 ·exact h.elim
end reg
end Go.Abs
end
section
namespace Go.Abs
open Go.RowKit
structure Stq (k:Nat) (sn:Z0f) (ι : Z0c) (H:Z00) (W:World) (sn':Z0f) (ι':Z0c) (H':Z00) (W':World):Prop where
 rel:R sn' ι' H' W'
 le:∀a v,sn a=some v->sn' a=some v
 fresh:∀(b:Nat)(o:AObj) p,H'[b]? = some o->o.alive=true -> ι' b=some p->W.heap.size<=p.blk\/∃ (b0:Nat) (o0:AObj) (p0:Place),H[b0]? = some o0/\o0.alive=true /\ ι b0=some p0/\p0.blk=p.blk
 frame:∀c,c<W.heap.size->(∀(b:Nat)(o:AObj) p,H[b]? = some o->o.alive=true -> ι b=some p->p.blk≠c)->W'.heap[c]? = W.heap[c]?
 size:W.heap.size<=W'.heap.size
 os:W'.os=W.os
 tape:W'.tape=W.tape
 output:W'.output=W.output
 sfresh:∀a v,sn' a=some v->sn a=some v\/W.heap.size<=a.block\/∃ (b0:Nat) (o0:AObj) (p0:Place),H[b0]? = some o0/\o0.alive=true /\ ι b0=some p0/\p0.blk=a.block
 keep:∀b p,b<k -> ι b=some p -> ι' b=some p
theorem Stp.q{k:Nat}{sn sn':Z0f}{ι ι':Z0c}{H H':Z00}{W W':World}(h0:R sn ι H W)(h:Stp sn ι H W sn' ι' H' W'):Stq k sn ι H W sn' ι' H' W':=by
 refine⟨h.rel,h.le.sn,λb o p hb ha hp=>?_,h.frame,h.size,h.os,h.tape,h.output,h.sfresh,λb p _ hp=>h.le.ι b p hp⟩
 rcases h.fresh b p hp with h1|h1|h1
 · have hbl:b<H.length:=(h0.dom b).2 ⟨p,h1⟩
   have hg:H[b]? = some H[b]:=Y07 hbl
   obtain⟨o',e1,_,_,e4⟩:=h.evo b _ hg
   rw[hb]at e1;simp at e1;subst e1
   exact .inr ⟨b,_,p,hg,e4 ha,h1,rfl⟩
 ·exact .inl h1
 ·exact .inr h1
theorem Stq.refl{k:Nat}{sn:Z0f}{ι : Z0c}{H:Z00}{W:World}(h:R sn ι H W):Stq k sn ι H W sn ι H W:=(Stp.refl h).q h
theorem Stq.trans{n:Nat}{sn sn1 sn2:Z0f}{ι ι1 ι2:Z0c}{H H1 H2:Z00}{W W1 W2:World}(h:Stq n sn ι H W sn1 ι1 H1 W1)(k:Stq n sn1 ι1 H1 W1 sn2 ι2 H2 W2):Stq n sn ι H W sn2 ι2 H2 W2:=by
 have via : ∀ c, (W1.heap.size <= c \/ ∃ (b0 : Nat) (o0 : AObj) (p0 : Place), H1[b0]? = some o0 /\ o0.alive = true /\ ι1 b0 = some p0 /\ p0.blk = c) ->
   W.heap.size<=c\/∃ (b0:Nat) (o0:AObj) (p0:Place),H[b0]? = some o0/\o0.alive=true /\ ι b0=some p0/\p0.blk=c:=by
  rintro c (h1|⟨b1,o1,p1,g1,g2,g3,rfl⟩)
  ·exact .inl (Nat.le_trans h.size h1)
  ·exact h.fresh b1 o1 p1 g1 g2 g3
 refine⟨k.rel,λa v e=>k.le a v (h.le a v e),λb o p hb ha hp=>via _ (k.fresh b o p hb ha hp),λc hc hno=>?_,Nat.le_trans h.size k.size,k.os.trans h.os,k.tape.trans h.tape,k.output.trans h.output,λa v hv=>?_,λb p hb hp=>k.keep b p hb (h.keep b p hb hp)⟩
 · rw[k.frame c (by have:=h.size;omega),h.frame c hc hno]
   intro b o p hb ha hp e
   rcases h.fresh b o p hb ha hp with h1|⟨b0,o0,p0,e1,e2,e3,e4⟩
   ·omega
   ·exact hno b0 o0 p0 e1 e2 e3 (by omega)
 · rcases k.sfresh a v hv with h1|h1
   ·exact h.sfresh a v h1
   ·exact .inr (via _ h1)
def iot(m:List Nat)(ι : Z0c):Z0c:=λb=>match m[b]? with|some j=>ι j|none=>none
def Wk(m:List Nat)(u u2:AV):Prop:=∀sn ι v,VR sn ι u v->VR sn (iot m ι) u2 v
theorem Wk.noref{m:List Nat}{u:AV}(h:Z0W u []=[]):Wk m u u:=λsn ι v hv=>Z1m u [] v (λb hb=>by rw[h]at hb;cases hb) hv
theorem Wk.int{m:List Nat}{k:IntKind}{a b:Int}(h:a=b):Wk m (.int k a) (.int k b):=by subst h;exact Wk.noref rfl
theorem Wk.bool{m:List Nat}{a b:Bool}(h:a=b):Wk m (.bool a) (.bool b):=by subst h;exact Wk.noref rfl
theorem Wk.ptr{m:List Nat}{b b2 off off2:Nat}(h:m[b2]? = some b)(e:off=off2):Wk m (.ptr b off) (.ptr b2 off2):=by
 subst e
 intro sn ι v hv
 obtain⟨p,h1,h2⟩:=hv.ptr
 simp only[VR];exact⟨p,by simp only[iot,h];exact h1,h2⟩
theorem Wk.map{m:List Nat}{b b2:Nat}(h:m[b2]? = some b):Wk m (.map b) (.map b2):=by
 intro sn ι v hv
 obtain⟨p,h1,h2⟩:=hv.map
 simp only[VR];exact⟨p,by simp only[iot,h];exact h1,h2⟩
theorem Wk.slice{m:List Nat}{b b2 off off2 len len2 c c2 z z2:Nat}(h:m[b2]? = some b)(eo:off=off2)(el:len=len2)(h1:len2<=c2)(h2:c2<=c)(ez:z=z2):Wk m (.slice b off len c z) (.slice b2 off2 len2 c2 z2):=by
 subst eo;subst el;subst ez
 intro sn ι v hv
 obtain⟨p,a,cap',g1,rfl,g2,g3,g4⟩:=hv.slice
 simp only[VR];exact⟨p,a,cap',by simp only[iot,h];exact g1,rfl,h1,by omega,g4⟩
def WkL(m:List Nat):List AV->List AV->Prop
 |[],[]=>True
 |a::l,b::l2=>Wk m a b/\WkL m l l2
 |_,_=>False
theorem WkL.lr{m:List Nat}{sn:Z0f}{ι : Z0c}:∀{l l2:List AV}{vs:List Value},WkL m l l2->LR sn ι l vs->LR sn (iot m ι) l2 vs
 |[],[],vs,h,hv=>by simpa[LR]using hv
 |a::l,b::l2,vs,h,hv=>by
  simp only[LR]at hv⊢
  obtain⟨d,ds,rfl,h1,h2⟩:=hv
  exact⟨d,ds,rfl,h.1 _ _ _ h1,WkL.lr h.2 h2⟩
 |[],_::_,vs,h,hv=>h.elim
 |_::_,[],vs,h,hv=>h.elim
theorem Wk.tuple{m:List Nat}{l l2:List AV}(h:WkL m l l2):Wk m (.tuple l) (.tuple l2):=by
 intro sn ι v hv
 obtain⟨d,rfl,h2⟩:=hv.tuple
 exact Z4D (h.lr h2)
theorem Wk.func{m:List Nat}{fn:Fn}{f f2 c c2:List AV}(h:WkL m f f2)(k:WkL m c c2):Wk m (.func fn f c) (.func fn f2 c2):=by
 intro sn ι v hv
 obtain⟨x,y,rfl,h1,h2⟩:=hv.func
 simp only[VR];exact⟨x,y,rfl,h.lr h1,k.lr h2⟩
def ZnB(m:List Nat)(t t2:Tr):Prop:=(∀n u2,Z10 t2 n=some u2->∃u,Z10 t n=some u/\Wk m u u2)/\∀n,tex t2 n=true->tex t n=true
def Z2k:(Nat->Option AV)->Tr->Tr
 |_,.leaf=>.leaf
 |g,.node x l r=>.node (match x with|some _=>some (g 0)|none=>none) (Z2k (λi=>g (Nat.add (Nat.mul 2 i) 1)) l) (Z2k (λi=>g (Nat.add (Nat.mul 2 i) 2)) r)
theorem Z4T:∀(t:Tr)(g:Nat->Option AV)(n:Nat)(u:AV),Z10 (Z2k g t) n=some u->g n=some u
 | .leaf,g,n,u,h=>by simp[Z2k,Z10]at h
 | .node x l r,g,0,u,h=>by cases x<;>simp[Z2k,Z10]at h;exact h
 | .node x l r,g,n+1,u,h=>by
  simp only[Z2k,Z10]at h
  split at h
  · rename_i hn
    have:=Z4T l _ _ u h
    have hn':n % 2=0:=hn
    have e:Nat.add (Nat.mul 2 (Nat.div n 2)) 1=n+1:=by show 2*(n / 2)+1=n+1;omega
    rw[e]at this;exact this
  · rename_i hn
    have:=Z4T r _ _ u h
    have hn':¬n % 2=0:=hn
    have e:Nat.add (Nat.mul 2 (Nat.div n 2)) 2=n+1:=by show 2*(n / 2)+2=n+1;omega
    rw[e]at this;exact this
theorem Z6g:∀(t:Tr)(g:Nat->Option AV)(n:Nat),tex (Z2k g t) n=tex t n
 | .leaf,g,n=>rfl
 | .node x l r,g,0=>by cases x<;>rfl
 | .node x l r,g,n+1=>by
  simp only[Z2k,tex]
  split<;>exact Z6g _ _ _
def Zel:Tr->Tr->Bool
 | .leaf,_=>true
 | .node x l r,.node y l2 r2=>(match x,y with|some _,none=>false|_,_=>true)&&(Zel l l2&&Zel r r2)
 | .node ..,.leaf=>false
theorem Z69:∀{t t2:Tr},Zel t t2=true->∀n,tex t n=true->tex t2 n=true
 | .leaf,t2,h,n,e=>by simp[tex]at e
 | .node x l r,.node y l2 r2,h,0,e=>by
  simp only[Zel,Y01]at h
  cases x with
  |none=>simp[tex]at e
  |some x=>cases y with
   |none=>simp at h
   |some y=>rfl
 | .node x l r,.node y l2 r2,h,n+1,e=>by
  simp only[Zel,Y01]at h
  simp only[tex]at e⊢
  split at e
  ·exact Z69 h.2.1 _ e
  ·exact Z69 h.2.2 _ e
 | .node ..,.leaf,h,n,e=>by simp[Zel]at h
def SlotsGe(m:List Nat)(t:Tr):List (Nat×AV)->Prop
 |[]=>True
 |(n,u2)::l=>(onO (Z10 t n) λu=>Wk m u u2)/\SlotsGe m t l
theorem SlotsGe.get{m:List Nat}{t:Tr}:∀{l:List (Nat×AV)},SlotsGe m t l->∀n u2,Z1s n l=some u2->∃u,Z10 t n=some u/\Wk m u u2
 |[],h,n,u2,e=>by simp[Z1s]at e
 |(k,v)::l,h,n,u2,e=>by
  simp only[Z1s]at e
  split at e
  · rename_i hk
    have:=Y05 hk;subst this
    simp at e;subst e
    exact Z01 h.1
  ·exact h.2.get n u2 e
def EGe(m:List Nat):List (AV×AV×Nat)->List (AV×AV×Nat)->Prop
 |[],[]=>True
 |(k,v,n)::l,(k2,v2,n2)::l2=>Wk m k k2/\Wk m v v2/\n=n2/\EGe m l l2
 |_,_=>False
theorem EGe.er{m:List Nat}{sn:Z0f}{ι : Z0c}:∀{l l2:List (AV×AV×Nat)}{es:List MapEntry},EGe m l l2->ER sn ι l es->ER sn (iot m ι) l2 es
 |[],[],es,h,e=>by simpa[ER]using e
 |(k,v,n)::l,(k2,v2,n2)::l2,es,h,e=>by
  obtain⟨h1,h2,rfl,h4⟩:=h
  simp only[ER]at e⊢
  obtain⟨x,l',rfl,g1,g2,g3,g4⟩:=e
  exact⟨x,l',rfl,h1 _ _ _ g1,h2 _ _ _ g2,g3,h4.er g4⟩
 |[],_::_,es,h,e=>h.elim
 |_::_,[],es,h,e=>h.elim
def TSGe(m:List Nat):List (Nat×AV)->List (Nat×AV)->Prop
 |[],[]=>True
 |x::l,y::l2=>x.1=y.1/\Wk m x.2 y.2/\TSGe m l l2
 |_,_=>False
theorem TSGe.tsr{m:List Nat}{sn:Z0f}{ι : Z0c}{a:Array Value}:∀{l l2:List (Nat×AV)},TSGe m l l2->TSR sn ι l a->TSR sn (iot m ι) l2 a
 |[],[],_,_=>trivial
 |x::l,y::l2,⟨h1,h2,h3⟩,⟨⟨v,e1,e2⟩,e3⟩=>⟨⟨v,h1 ▸ e1,h2 _ _ _ e2⟩,h3.tsr e3⟩
 |[],_::_,h,_=>h.elim
 |_::_,[],h,_=>h.elim
def BodyGe(m:List Nat):ABody->ABody->Prop
 | .cells cs ty,.cells cs2 ty2=>ty=ty2/\cs2.length<=cs.length/\∀(i:Nat)(c2:AV),cs2[i]? = some c2->∃c,cs[i]? = some c/\Wk m c c2
 | .map es c,.map es2 c2=>c=c2/\EGe m es es2
 | .siter s p,.siter s2 p2=>s=s2/\p=p2
 | .loop g ts,.loop g2 ts2=>g=g2/\TSGe m ts ts2
 |_,_=>False
theorem BodyGe.pre{m:List Nat}{cs cs2 rest:List AV}{ty:TypeId}(e:cs=cs2++rest)(h:refsL cs2 []=[]):BodyGe m (.cells cs ty) (.cells cs2 ty):=by
 subst e
 refine⟨rfl,by simp,λi c hc=>⟨c,?_,λsn ι v hv=>?_⟩⟩
 ·rw[Y0l (Y04.1 hc).1];exact hc
 · have key : ∀ (l : List AV), refsL l [] = [] -> ∀ (i : Nat) (c : AV), l[i]? = some c -> ∀ b, b ∈ Z0W c [] -> False := by
    intro l
    induction l with
    |nil=>intro _ i c hc;simp at hc
    |cons x l ih =>
     intro hl i c hc b hb
     have hx:∀y,y∈Z0W x (refsL l [])->False:=λy hy=>by simp only[refsL]at hl;rw[hl]at hy;cases hy
     have hl':refsL l []=[]:=by
      rw[List.eq_nil_iff_forall_not_mem];intro y hy;exact hx y (Z1O x _ y hy)
     cases i with
     |zero=>simp at hc;subst hc;rw[hl']at hx;exact hx b hb
     |succ i=>exact ih hl' i c (by simpa using hc) b hb
   exact Z1m c [] v (λb hb=>(key cs2 h i c hc b hb).elim) hv
theorem BodyGe.cellsL{m:List Nat}{cs cs2:List AV}{ty:TypeId}(h:WkL m cs cs2):BodyGe m (.cells cs ty) (.cells cs2 ty):=by
 refine⟨rfl,?_,?_⟩
 · have : ∀ (l l2 : List AV), WkL m l l2 -> l2.length <= l.length := by
    intro l
    induction l with
    |nil=>intro l2 h;cases l2 with|nil=>simp|cons _ _=>exact h.elim
    |cons x l ih=>intro l2 h;cases l2 with|nil=>exact h.elim|cons _ _=>simp;exact ih _ h.2
   exact this _ _ h
 · have : ∀ (l l2 : List AV), WkL m l l2 -> ∀ (i : Nat) (c2 : AV), l2[i]? = some c2 -> ∃ c, l[i]? = some c /\ Wk m c c2 := by
    intro l
    induction l with
    |nil=>intro l2 h i c2 hc;cases l2 with|nil=>simp at hc|cons _ _=>exact h.elim
    |cons x l ih =>
     intro l2 h i c2 hc
     cases l2 with
     |nil=>exact h.elim
     |cons y l2=>cases i with
      |zero=>simp at hc;subst hc;exact⟨x,rfl,h.1⟩
      |succ i=>simpa using ih _ h.2 i c2 (by simpa using hc)
   exact this _ _ h
theorem BodyGe.or{m:List Nat}{sn:Z0f}{ι : Z0c}{W:World}{p:Place}:∀{b b2:ABody},BodyGe m b b2->OR sn ι W b p->OR sn (iot m ι) W b2 p
 | .cells cs ty,.cells cs2 ty2,h,e=>by
  obtain⟨rfl,h1,h2⟩:=h
  simp only[OR]at e⊢
  obtain⟨arr,g1,g2,g3,g4⟩:=e
  refine⟨arr,g1,g2,by omega,λi c2 hc=>?_⟩
  obtain⟨c,e1,e2⟩:=h2 i c2 hc
  obtain⟨v,e3,e4⟩:=g4 i c e1
  exact⟨v,e3,e2 _ _ _ e4⟩
 | .map es c,.map es2 c2,h,e=>by
  obtain⟨rfl,h1⟩:=h
  simp only[OR]at e⊢
  obtain⟨mes,g1,g2⟩:=e
  exact⟨mes,g1,h1.er g2⟩
 | .siter s q,.siter s2 q2,h,e=>by
  obtain⟨rfl,rfl⟩:=h
  simpa only[OR]using e
 | .loop g ts,.loop g2 ts2,h,e=>by
  obtain⟨rfl,h2⟩:=h
  simp only[OR]at e⊢
  obtain⟨r,g1,g2,g3,g4⟩:=e
  exact⟨r,g1,g2,g3,h2.tsr g4⟩
 | .cells _ _,.loop _ _,h,_=>h.elim
 | .map _ _,.loop _ _,h,_=>h.elim
 | .siter _ _,.loop _ _,h,_=>h.elim
 | .loop _ _,.cells _ _,h,_=>h.elim
 | .loop _ _,.map _ _,h,_=>h.elim
 | .loop _ _,.siter _ _,h,_=>h.elim
 | .cells _ _,.map _ _,h,_=>h.elim
 | .cells _ _,.siter _ _,h,_=>h.elim
 | .map _ _,.cells _ _,h,_=>h.elim
 | .map _ _,.siter _ _,h,_=>h.elim
 | .siter _ _,.cells _ _,h,_=>h.elim
 | .siter _ _,.map _ _,h,_=>h.elim
def HpGe(H:Z00)(m:List Nat):List Nat->Z00->Nat->Prop
 |[],[],_=>True
 |j::l,o2::H2,i=>(onO H[j]? λo=>o.alive=true/\o2.alive=true/\o2.fam=i/\o2.sh=o.sh/\BodyGe m o.body o2.body)/\HpGe H m l H2 (i+1)
 |_,_,_=>False
theorem HpGe.get{H:Z00}{m:List Nat}:∀{l:List Nat}{H2:Z00}{i:Nat},HpGe H m l H2 i->H2.length=l.length/\∀b,b<l.length->∃j o o2,l[b]? = some j/\H[j]? = some o/\H2[b]? = some o2/\o.alive=true/\o2.alive=true/\o2.fam=i+b/\o2.sh=o.sh/\BodyGe m o.body o2.body
 |[],[],i,h=>⟨rfl,λb hb=>by simp at hb⟩
 |j::l,o2::H2,i,h=>by
  obtain⟨h1,h2⟩:=h
  obtain⟨o,ho,e1,e2,e3,e4,e5⟩:=Z01 h1
  obtain⟨k1,k2⟩:=h2.get
  refine⟨by simp[k1],λb hb=>?_⟩
  cases b with
  |zero=>exact⟨j,o,o2,rfl,ho,rfl,e1,e2,e3,e4,e5⟩
  |succ b =>
   obtain⟨j',o',o2',x1,x2,x3,x4,x5,x6,x7,x8⟩:=k2 b (by simpa using hb)
   exact⟨j',o',o2',by simpa using x1,x2,by simpa using x3,x4,x5,by omega,x7,x8⟩
 |[],_::_,i,h=>h.elim
 |_::_,[],i,h=>h.elim
def Z0M(H:Z00)(j:Nat):Nat:=match H[j]? with|some o=>o.fam|none=>0
def Z1h:List Nat->Bool
 |[]=>true
 |n::l=>!(mem n l)&&Z1h l
theorem Z5m:∀{l:List Nat}{i j:Nat}{x:Nat},Z1h l=true->l[i]? = some x->l[j]? = some x->i=j
 |[],i,j,x,h,hi,hj=>by simp at hi
 |n::l,i,j,x,h,hi,hj=>by
  simp only[Z1h,Y01,Y0i]at h
  have nm:∀k,l[k]? = some n->False:=λk hk=>by
   have:mem n l=true:=Z0S.2 (Y0a hk)
   rw[h.1]at this;cases this
  cases i with
  |zero=>cases j with
   |zero=>rfl
   |succ j=>simp at hi hj;subst hi;exact (nm j hj).elim
  |succ i=>cases j with
   |zero=>simp at hi hj;subst hj;exact (nm i hi).elim
   |succ j=>simp at hi hj;rw[Z5m h.2 hi hj]
def ZgT:Nat->Nat->List Nat->Bool
 |0,_,_=>true
 |k+1,i,j::m=>Y00 j i&&ZgT k (i+1) m
 |_+1,_,[]=>false
theorem Z8W:∀{k i:Nat}{m:List Nat},ZgT k i m=true->∀b,b<k->m[b]? = some (i+b)
 |0,i,m,h,b,hb=>by omega
 |k+1,i,[],h,b,hb=>by simp[ZgT]at h
 |k+1,i,j::m,h,b,hb=>by
  simp only[ZgT,Y01]at h
  have:=Y05 h.1;subst this
  cases b with
  |zero=>simp
  |succ b=>have:=Z8W h.2 b (by omega);simp only[List.getElem?_cons_succ,this];congr 1;omega
structure Fg (k:Nat) (m:List Nat) (tm:Tr) (H:Z00) (tm2:Tr) (H2:Z00):Prop where
 tr:ZnB m tm tm2
 hp:HpGe H m m H2 0
 fams:Z1h (m.map (Z0M H))=true
 kp:ZgT k 0 m=true
theorem Fg.sound{k:Nat}{m:List Nat}{tm tm2:Tr}{H H2:Z00}(h:Fg k m tm H tm2 H2){sn:Z0f}{ι : Z0c}{W:World}{a:Act}(hR:R sn ι H W)(ht:TRel sn ι tm a):Stq k sn ι H W sn (iot m ι) H2 W/\TRel sn (iot m ι) tm2 a:=by
 obtain⟨hl,hg⟩:=h.hp.get
 have at2:∀{b:Nat}{o2:AObj}{p:Place},H2[b]? = some o2->iot m ι b=some p->∃j o,m[b]? = some j/\H[j]? = some o /\ ι j=some p/\o.alive=true/\o2.alive=true/\o2.fam=b/\o2.sh=o.sh/\BodyGe m o.body o2.body:=by
  intro b o2 p hb hp
  obtain⟨j,o,o2',x1,x2,x3,x4,x5,x6,x7,x8⟩:=hg b (by rw[<- hl];exact (Y04.1 hb).1)
  rw[hb]at x3;simp at x3;subst x3
  simp only[iot,x1]at hp
  exact⟨j,o,x1,x2,hp,x4,x5,by omega,x7,x8⟩
 have hR2:R sn (iot m ι) H2 W:=by
  refine⟨λb=>⟨λhb=>?_,λ⟨p,hp⟩=>?_⟩,λb p hp=>?_,λb o2 p hb ha hp=>?_,λb b' o o' p p' hb hb' ha ha' hp hp' e=>?_,λad v hv=>?_,λb o2 p hb hp e=>?_⟩
  · obtain⟨j,o,o2,x1,x2,_⟩:=hg b (by omega)
    obtain⟨p,hp⟩:=hR.place x2
    exact⟨p,by simp only[iot,x1];exact hp⟩
  · unfold iot at hp
    split at hp
    ·rename_i j hj;rw[hl];exact (Y04.1 hj).1
    ·cases hp
  · unfold iot at hp
    split at hp
    ·exact hR.blk _ p hp
    ·cases hp
  · obtain⟨j,o,x1,x2,x3,x4,x5,x6,x7,x8⟩:=at2 hb hp
    exact x8.or (hR.obj j o p x2 x4 x3)
  · obtain⟨j,q,x1,x2,x3,x4,x5,x6,x7,x8⟩:=at2 hb hp
    obtain⟨j',q',y1,y2,y3,y4,y5,y6,y7,y8⟩:=at2 hb' hp'
    have hs:=hR.sep j j' q q' p p' x2 y2 x4 y4 x3 y3 e
    have:b=b':=Z5m (l:=m.map (Z0M H)) (x:=q.fam) h.fams (by simp[x1,Z0M,x2]) (by simp[y1,Z0M,y2,hs.1])
    subst this
    exact⟨by rw[x6,y6],by rw[x7,y7];exact hs.2⟩
  · obtain⟨h1,h2,h3⟩:=hR.snap ad v hv
    refine⟨h1,h2,λb o2 p hb ha hp=>?_⟩
    obtain⟨j,o,x1,x2,x3,x4,_⟩:=at2 hb hp
    exact h3 j o p x2 x4 x3
  · obtain⟨j,o,x1,x2,x3,x4,x5,x6,x7,x8⟩:=at2 hb hp
    exact hR.shz j o p x2 x3 (by omega)
 refine⟨⟨hR2,λ_ _ h=>h,λb o2 p hb ha hp=>?_,λ_ _ _=>rfl,Nat.le_refl _,rfl,rfl,rfl,λ_ _ h=>.inl h,λb p hb hp=>by have:=Z8W h.kp b hb;simp only[Y02]at this;simp only[iot,this];exact hp⟩,λt u2 hu=>?_,λt hx=>ht.2 t (h.tr.2 t hx)⟩
 · obtain⟨j,o,x1,x2,x3,x4,_⟩:=at2 hb hp
   exact .inr ⟨j,o,p,x2,x4,x3,rfl⟩
 · obtain⟨u,h1,h2⟩:=h.tr.1 t u2 hu
   obtain⟨v,h3,h4⟩:=ht.1 t u h1
   exact⟨v,h3,h2 _ _ _ h4⟩
theorem Zdy{sn sn':Z0f}(h:∀a v,sn a=some v->sn' a=some v):Le sn sn' noI noI:=⟨h,λ_ _ h=>h⟩
def FgS(k:Nat)(tm:Tr)(H:Z00)(tm2:Tr)(H2:Z00):Prop :=
 ∀(sn:Z0f)(ι : Z0c)(W:World)(a:Act),R sn ι H W->TRel sn ι tm a->∃sn' ι',Stq k sn ι H W sn' ι' H2 W/\TRel sn' ι' tm2 a
theorem Fg.s{k:Nat}{m:List Nat}{tm tm2:Tr}{H H2:Z00}(h:Fg k m tm H tm2 H2):FgS k tm H tm2 H2:=λsn ι W a hR ht=>⟨sn,iot m ι,h.sound hR ht⟩
def FgLK(k:Nat)(t0 tm:Tr)(H:Z00)(l:List (Nat×AV))(H2:Z00):Prop :=
 match Zel t0 tm with
 |true=>(∃m,ZgT k 0 m=true/\SlotsGe m tm l/\HpGe H m m H2 0/\Z1h (m.map (Z0M H))=true)\/FgS k tm H (Z2k (λn=>Z1s n l) t0) H2
 |false=>False
abbrev FgL:=FgLK 0
theorem FgLK.fg{k:Nat}{t0 tm:Tr}{H:Z00}{l:List (Nat×AV)}{H2:Z00}(h:FgLK k t0 tm H l H2):FgS k tm H (Z2k (λn=>Z1s n l) t0) H2:=by
 unfold FgLK at h
 split at h
 · rename_i hs
   rcases h with ⟨m,h0,h1,h2,h3⟩|h
   ·exact Fg.s (m:=m) ⟨⟨λn u2 e=>h1.get n u2 (Z4T _ _ _ _ e),λn e=>Z69 hs n (by rwa [Z6g]at e)⟩,h2,h3,h0⟩
   ·exact h
 ·exact h.elim
def Zk1(x:Option (Option AV))(k:Option (Option AV)->Prop):Prop:=match x with
 |none=>k none
 |some none=>k (some none)
 |some (some v)=>frc1 v λv=>k (some (some v))
theorem ZhY(x:Option (Option AV))(k:Option (Option AV)->Prop):Zk1 x k=k x:=by
 cases x with
 |none=>rfl
 |some x=>cases x with
  |none=>rfl
  |some v=>simp only[Zk1,Z0r]
def Z0s:Tr->(Tr->Prop)->Prop
 | .leaf,k=>k .leaf
 | .node x l r,k=>Zk1 x λx=>Z0s l λl=>Z0s r λr=>k (.node x l r)
theorem Z09:∀(t:Tr)(k:Tr->Prop),Z0s t k=k t
 | .leaf,k=>rfl
 | .node x l r,k=>by simp only[Z0s,ZhY,Z09 l,Z09 r]
def Zkh(D:Nat):Deferred:={ target:=.collected D,args:=#[] }
def DefOK(W0:World)(d0:List Deferred)(ι : Z0c)(H:Z00)(W:World)(d:List Deferred):Prop :=
 ∃ds:List Nat,d=ds.map Zkh++d0/\ds.Nodup/\∀D∈ds,W0.heap.size<=D/\W.heap[D]? = some (.deferred (some []))/\∀(b:Nat)(o:AObj) p,H[b]? = some o->o.alive=true -> ι b=some p->p.blk≠D
theorem DefOK.eq{W0 W:World}{d0 d:List Deferred}{ι : Z0c}{H:Z00}(h:d=d0):DefOK W0 d0 ι H W d:=⟨[],by simp[h],List.nodup_nil,λ_ h=>by cases h⟩
theorem DefOK.trans{k:Nat}{W W1 W2:World}{d d1 d2:List Deferred}{sn1 sn2:Z0f}{ι1 ι2:Z0c}{H1 H2:Z00}(hs:W.heap.size<=W1.heap.size)(h:DefOK W d ι1 H1 W1 d1)(s:Stq k sn1 ι1 H1 W1 sn2 ι2 H2 W2)(h2:DefOK W1 d1 ι2 H2 W2 d2):DefOK W d ι2 H2 W2 d2:=by
 obtain⟨ds,rfl,n1,e1⟩:=h
 obtain⟨ds2,rfl,n2,e2⟩:=h2
 have hlt:∀D∈ds,D<W1.heap.size:=λD hD=>(Y0p.1 (e1 D hD).2.1).1
 refine⟨ds2++ds,by simp,?_,λD hD=>?_⟩
 · rw[List.nodup_append]
   refine⟨n2,n1,λa ha b hb e=>?_⟩
   subst e
   have:=(e2 a ha).1;have:=hlt a hb;omega
 · rcases Y0j.1 hD with hD|hD
   · obtain⟨g1,g2,g3⟩:=e2 D hD
     exact⟨by omega,g2,g3⟩
   · obtain⟨g1,g2,g3⟩:=e1 D hD
     refine⟨g1,by rw[s.frame D (hlt D hD) g3];exact g2,λb o p hb ha hp e=>?_⟩
     rcases s.fresh b o p hb ha hp with f1|⟨b0,o0,p0,f1,f2,f3,f4⟩
     ·have:=hlt D hD;omega
     ·exact g3 b0 o0 p0 f1 f2 f3 (f4.trans e)
structure Shut (ds:List Nat) (W W':World):Prop where
 other:∀c,c ∉ ds->W'.heap[c]? = W.heap[c]?
 size:W'.heap.size=W.heap.size
 os:W'.os=W.os
 tape:W'.tape=W.tape
 output:W'.output=W.output
theorem Stq.shut{k:Nat}{ds:List Nat}{sn sn1:Z0f}{ι ι1:Z0c}{H H1:Z00}{W W1 W2:World}(s:Stq k sn ι H W sn1 ι1 H1 W1)(hd:∀D∈ds,W.heap.size<=D/\W1.heap[D]? = some (.deferred (some []))/\∀(b:Nat)(o:AObj) p,H1[b]? = some o->o.alive=true -> ι1 b=some p->p.blk≠D)(h:Shut ds W1 W2):Stq k sn ι H W sn1 ι1 H1 W2:=by
 have hR:=s.rel
 refine⟨⟨hR.dom,λb p hp=>by rw[h.size];exact hR.blk b p hp,λb o p hb ha hp=>?_,hR.sep,λa v hv=>?_,hR.shz⟩,s.le,s.fresh,λc hc hno=>?_,by rw[h.size];exact s.size,h.os.trans s.os,h.tape.trans s.tape,h.output.trans s.output,s.sfresh,s.keep⟩
 ·exact Z0V (Le.refl _ _) (h.other _ λhm=>(hd _ hm).2.2 b o p hb ha hp rfl) (hR.obj b o p hb ha hp)
 · obtain⟨g1,g2,g3⟩:=hR.snap a v hv
   refine⟨by rw[h.size];exact g1,?_,g3⟩
   rw[World.cell?_of_block (h.other _ λhm=>?_)]
   ·exact g2
   · have:=(hd _ hm).2.1
     unfold World.cell? at g2
     rw[this]at g2;cases g2
 · rw[h.other c λhm=>by have:=(hd _ hm).1;omega]
   exact s.frame c hc hno
def Tri(P:Program)(gl:Z0n)(rd:Option Nat)(k:Nat)(c:Code)(tm:Tr)(H:Z00)(Φ : AEx->Tr->Z00->Prop):Prop :=
 ∀(a:Act)(W:World)(sn:Z0f)(ι : Z0c)(Q:Exit->Act->World->Prop),GlOK gl sn->R sn ι H W->TRel sn ι tm a ->
  (∀x tm' H' a' W' sn' ι',Φ x tm' H'->Stq k sn ι H W sn' ι' H' W'->TRel sn' ι' tm' a'->DefOK W a.defers ι' H' W' a'.defers->Q (ZlZ x) a' W')->c.wpIn (Fq rd) 0 P Q a W
def ZmB(kn:Tr->Z00->Prop)(kx:Nat->Tr->Z00->Prop)(kr:Tr->Z00->Prop)(x:AEx)(tm:Tr)(H:Z00):Prop:=match x with
 | .normal=>kn tm H
 | .exit id=>kx id tm H
 | .ret=>kr tm H
def Z5n(k:Nat)(body:(Tr->Z00->Prop)->Tr->Z00->Prop)(tm:Tr)(H:Z00):Prop :=
 ∃ (S:Type) (I:S->Prop) (L:S->List (Nat×AV)) (B:S->Z00) (μ : S->Nat),(∃s,I s/\FgLK k tm tm H (L s) (B s)) /\
  ∀s,I s->Z0s (Z2k (λn=>Z1s n (L s)) tm) λtm1=>frcHW (B s) λH1=>body (λtm' H'=>∃s',I s' /\ μ s'<μ s/\FgLK k tm tm' H' (L s') (B s')) tm1 H1
abbrev KN:=Tr->Z00->Prop
abbrev KX:=Nat->Tr->Z00->Prop
structure LH where
 lp:((Tr->Z00->Prop)->Tr->Z00->Prop)->Tr->Z00->Prop
 rf:AV->Array Tmp->Code->Code->KN->KX->KN->Tr->Z00->Prop
def Zn7:AV->Array Tmp->Code->Code->KN->KX->KN->Tr->Z00->Prop:=λ_ _ _ _ _ _ _ _ _=>False
def Z4S:LH:=⟨λ_ _ _=>False,Zn7⟩
def ZbU(k:Nat):LH:=⟨Z5n k,Zn7⟩
abbrev ZgX:=ZbU 0
noncomputable def Z1Q(P:Program)(gl:Z0n)(orc:Orc)(cw:CW)(lh:LH)(c:Code):KN->KX->KN->Tr->Z00->Prop :=
 Code.rec (motive:=λ_=>KN->KX->KN->Tr->Z00->Prop)
  (λkn _ _ tm H=>kn tm H)
  (fun _ ops draw kn _ _ tm H => match draw with
    |true=>ZfR P gl orc cw ops.toList tm H kn
    |false=>Zjk P gl orc cw ops.toList ops.toList tm H kn)
  (λ_ _ iha ihb kn kx kr tm H=>iha (λtm H=>ihb kn kx kr tm H) kx kr tm H)
  (fun c _ _ iha ihb kn kx kr tm H => onO (Z1C gl tm c) fun v => match v with
    | .bool t=>(t=true->iha kn kx kr tm H)/\(t=false->ihb kn kx kr tm H)
    |_=>False)
  (λid _ ih kn kx kr tm H=>ih kn (λid' tm H=>match Y00 id' id with|true=>kn tm H|false=>kx id' tm H) kr tm H)
  (λ_ ih _ kx kr tm H=>lh.lp (λkn tm H=>ih kn kx kr tm H) tm H)
  (λf ps asg bd _ _ kn kx kr tm H=>onO (Z1C gl tm f) λv=>lh.rf v ps asg bd kn kx kr tm H)
  (λid _ kx _ tm H=>kx id tm H)
  (λ_ _ _ _ _ _ _=>False)
  (λ_ _ _ _ _ _=>False)
  (λ_ _ _ _ _ _=>False)
  (λ_ _ kr tm H=>kr tm H)
  (λ_ _ _ _ _ _=>False) c
section code
variable {P:Program} {gl:Z0n} {orc:Orc} {k:Nat} {rd:Option Nat}
theorem Tri.mono{c:Code}{tm:Tr}{H:Z00}{Φ Ψ : AEx->Tr->Z00->Prop}(h:Tri P gl rd k c tm H Φ)(hk:∀x tm' H',Φ x tm' H' -> Ψ x tm' H'):Tri P gl rd k c tm H Ψ :=
 λa W sn ι Q hg hR ht hQ=>h a W sn ι Q hg hR ht λx tm' H' a' W' sn' ι' hx=>hQ x tm' H' a' W' sn' ι' (hk _ _ _ hx)
theorem Tri.seq{c d:Code}{tm:Tr}{H:Z00}{Φ : AEx->Tr->Z00->Prop}(h:Tri P gl rd k c tm H λx tm1 H1=>match x with | .normal=>Tri P gl rd k d tm1 H1 Φ | x=>Φ x tm1 H1):Tri P gl rd k (.seq c d) tm H Φ:=by
 intro a W sn ι Q hg hR ht hQ
 refine wpIn_seq (h a W sn ι _ hg hR ht λx tm1 H1 a1 W1 sn1 ι1 hx s1 t1 d1=>?_)
 cases x with
 |normal =>
  show Code.wpIn (Fq rd) 0 P d Q a1 W1
  refine hx a1 W1 sn1 ι1 Q (hg.mono (Zdy s1.le)) s1.rel t1 λx tm2 H2 a2 W2 sn2 ι2 hx2 s2 t2 d2=>?_
  exact hQ _ _ _ _ _ _ _ hx2 (s1.trans s2) t2 (DefOK.trans s1.size d1 s2 d2)
 |exit id=>exact hQ (.exit id) tm1 H1 _ _ _ _ hx s1 t1 d1
 |ret=>exact hQ .ret tm1 H1 _ _ _ _ hx s1 t1 d1
theorem Tri.forget{c:Code}{tm:Tr}{H:Z00}{Φ : AEx->Tr->Z00->Prop}{tm2:Tr}{H2:Z00}(hf:FgS k tm H tm2 H2)(h:Tri P gl rd k c tm2 H2 Φ):Tri P gl rd k c tm H Φ:=by
 intro a W sn ι Q hg hR ht hQ
 obtain⟨sn1,ι1,s1,t1⟩:=hf sn ι W a hR ht
 exact h a W sn1 ι1 Q (hg.mono (Zdy s1.le)) s1.rel t1 λx tm' H' a' W' sn' ι' hx s2 t2 d2=>hQ x tm' H' a' W' sn' ι' hx (s1.trans s2) t2 d2
theorem Tri.loop {b : Code} {S : Type} {I : S -> Prop} {T : S -> Tr} {B : S -> Z00} {μ : S -> Nat} {Φ : AEx -> Tr -> Z00 -> Prop}
  (h:∀s,I s->Tri P gl rd k b (T s) (B s) λx tm' H'=>match x with | .normal=>∃s',I s' /\ μ s'<μ s/\FgS k tm' H' (T s') (B s')|x=>Φ x tm' H') {s:S} (h0:I s):Tri P gl rd k (.loop b) (T s) (B s) Φ:=by
 have key : ∀ (n : Nat) (s : S), μ s < n -> I s -> ∀ (a : Act) (W : World) (sn : Z0f) (ι : Z0c) (Q : Exit -> Act -> World -> Prop), GlOK gl sn -> R sn ι (B s) W -> TRel sn ι (T s) a ->
   (∀x tm' H' a' W' sn' ι',Φ x tm' H'->Stq k sn ι (B s) W sn' ι' H' W'->TRel sn' ι' tm' a'->DefOK W a.defers ι' H' W' a'.defers->Q (ZlZ x) a' W')->Code.roundsIn (Fq rd) 0 P b Q n a W:=by
  intro n
  induction n with
  |zero=>intro s hs;omega
  |succ n ih =>
   intro s hs hI a W sn ι Q hg hR ht hQ
   rw[roundsIn_succ]
   refine h s hI a W sn ι _ hg hR ht λx tm1 H1 a1 W1 sn1 ι1 hx s1 t1 d1=>?_
   cases x with
   |normal =>
    show Code.roundsIn (Fq rd) 0 P b Q n a1 W1
    obtain⟨s',hI',hs',hf⟩:=hx
    obtain⟨sn2,ι2,s2,t2⟩:=hf sn1 ι1 W1 a1 s1.rel t1
    refine ih s' (by omega) hI' a1 W1 sn2 ι2 Q ((hg.mono (Zdy s1.le)).mono (Zdy s2.le)) s2.rel t2 λx tm3 H3 a3 W3 sn3 ι3 hx3 s3 t3 d3=>?_
    exact hQ _ _ _ _ _ _ _ hx3 ((s1.trans s2).trans s3) t3 (DefOK.trans s1.size d1 (s2.trans s3) d3)
   |exit id=>exact hQ (.exit id) tm1 H1 _ _ _ _ hx s1 t1 d1
   |ret=>exact hQ .ret tm1 H1 _ _ _ _ hx s1 t1 d1
 intro a W sn ι Q hg hR ht hQ
 exact wpIn_loop_rounds (μ s+1) (key (μ s+1) s (by omega) h0 a W sn ι Q hg hR ht hQ)
def Zm4(P:Program)(gl:Z0n)(rd:Option Nat)(k:Nat)(rf:AV->Array Tmp->Code->Code->KN->KX->KN->Tr->Z00->Prop):Prop :=
 ∀f v ps asg bd kn kx kr tm H,Z1C gl tm f=some v->rf v ps asg bd kn kx kr tm H->Tri P gl rd k (.rangeFunc f ps asg bd) tm H (ZmB kn kx kr)
theorem Z1t {rf : AV -> Array Tmp -> Code -> Code -> KN -> KX -> KN -> Tr -> Z00 -> Prop} (hrf : Zm4 P gl rd k rf) (hm : P.follows .mixedOrders = true) (hn : NoNum P) (hO : OrcSound P gl orc) {cw : CW} (hcw : ZaV P orc cw) : ∀ (c : Code) {kn : Tr -> Z00 -> Prop} {kx : Nat -> Tr -> Z00 -> Prop} {kr : Tr -> Z00 -> Prop} {tm : Tr} {H : Z00},
  Z1Q P gl orc cw ⟨Z5n k,rf⟩ c kn kx kr tm H->Tri P gl rd k c tm H (ZmB kn kx kr)
 | .skip,kn,kx,kr,tm,H,h=>λa W sn ι Q hg hR ht hQ=>by
  exact wpIn_skip (hQ .normal tm H a W sn ι h (Stq.refl hR) ht (DefOK.eq rfl))
 | .region id ops draw,kn,kx,kr,tm,H,h=>λa W sn ι Q hg hR ht hQ=>by
  cases draw with
  |true =>
   replace h:ZfR P gl orc cw ops.toList tm H kn:=h
   obtain⟨tm',H',h1,h⟩:=ZcN P gl orc cw hcw h
   exact ZbH hm hn hO hg hR ht h1 (λa' W' sn' ι' s1 t1 d1=>hQ .normal tm' H' a' W' sn' ι' h (s1.q hR) t1 (DefOK.eq d1)) id
  |false =>
   replace h:Zjk P gl orc cw ops.toList ops.toList tm H kn:=h
   obtain⟨tm',H',h1,h⟩:=Z8N P gl orc cw hcw h
   exact wpIn_region_list (ZdM hn hO ops _ _ _ _ _ _ _ _ _ h1 hg hR ht λa' W' sn' ι' s1 t1 d1=>hQ .normal tm' H' a' W' sn' ι' h (s1.q hR) t1 (DefOK.eq d1))
 | .seq c d,kn,kx,kr,tm,H,h=>by
  replace h:Z1Q P gl orc cw ⟨Z5n k,rf⟩ c (λtm H=>Z1Q P gl orc cw ⟨Z5n k,rf⟩ d kn kx kr tm H) kx kr tm H:=h
  refine Tri.seq ((Z1t hrf hm hn hO hcw c h).mono λx tm1 H1 hx=>?_)
  cases x with
  |normal=>exact Z1t hrf hm hn hO hcw d hx
  |exit id=>exact hx
  |ret=>exact hx
 | .cond e c d,kn,kx,kr,tm,H,h=>λa W sn ι Q hg hR ht hQ=>by
  replace h:(onO (Z1C gl tm e) λv=>match v with
   | .bool t=>(t=true->Z1Q P gl orc cw ⟨Z5n k,rf⟩ c kn kx kr tm H)/\(t=false->Z1Q P gl orc cw ⟨Z5n k,rf⟩ d kn kx kr tm H)
   |_=>False):=h
  obtain⟨v,hv,h⟩:=Z01 h
  split at h
  · rename_i t
    have he:=(Z3g hg ht _ _ hv).bool
    cases t with
    |true=>exact wpIn_cond_true he (Z1t hrf hm hn hO hcw c (h.1 rfl) a W sn ι Q hg hR ht hQ)
    |false=>exact wpIn_cond_false he (Z1t hrf hm hn hO hcw d (h.2 rfl) a W sn ι Q hg hR ht hQ)
  ·exact h.elim
 | .block id b,kn,kx,kr,tm,H,h=>λa W sn ι Q hg hR ht hQ=>by
  replace h:Z1Q P gl orc cw ⟨Z5n k,rf⟩ b kn (λid' tm H=>match Y00 id' id with|true=>kn tm H|false=>kx id' tm H) kr tm H:=h
  refine wpIn_block (Z1t hrf hm hn hO hcw b h a W sn ι _ hg hR ht λx tm1 H1 a1 W1 sn1 ι1 hx s1 t1 d1=>?_)
  cases x with
  |normal=>exact hQ .normal tm1 H1 _ _ _ _ hx s1 t1 d1
  |ret=>exact hQ .ret tm1 H1 _ _ _ _ hx s1 t1 d1
  |exit id' =>
   show (if id'=id then Q .normal a1 W1 else Q (.exit id') a1 W1)
   have hx:(match Y00 id' id with|true=>kn tm1 H1|false=>kx id' tm1 H1):=hx
   by_cases e:id'=id
   · rw[if_pos e]
     subst e
     have:Y00 id' id'=true:=by simp
     rw[this]at hx
     exact hQ .normal tm1 H1 _ _ _ _ hx s1 t1 d1
   · rw[if_neg e]
     have:Y00 id' id=false:=by cases hb:Y00 id' id with|false=>rfl|true=>exact (e (Y05 hb)).elim
     rw[this]at hx
     exact hQ (.exit id') tm1 H1 _ _ _ _ hx s1 t1 d1
 | .loop b,kn,kx,kr,tm,H,h=>by
  replace h:Z5n k (λkn tm H=>Z1Q P gl orc cw ⟨Z5n k,rf⟩ b kn kx kr tm H) tm H:=h
  unfold Z5n at h
  obtain⟨S,I,L,B,μ,⟨s,h0,hf⟩,h⟩:=h
  refine Tri.forget hf.fg (Tri.loop (I:=I) (T:=λs=>Z2k (λn=>Z1s n (L s)) tm) (B:=B) (μ:=μ) (λs hI=>?_) h0)
  have h:=h s hI
  rw[Z09,Z0m]at h
  refine (Z1t hrf hm hn hO hcw b h).mono λx tm' H' hx=>?_
  cases x with
  |normal =>
   obtain⟨s',k1,k2,k3⟩:=hx
   exact⟨s',k1,k2,k3.fg⟩
  |exit id=>exact hx
  |ret=>exact hx
 | .exit id,kn,kx,kr,tm,H,h=>λa W sn ι Q hg hR ht hQ=>by
  exact wpIn_exit (hQ (.exit id) tm H a W sn ι h (Stq.refl hR) ht (DefOK.eq rfl))
 | .ret,kn,kx,kr,tm,H,h=>λa W sn ι Q hg hR ht hQ=>by
  exact wpIn_ret (hQ .ret tm H a W sn ι h (Stq.refl hR) ht (DefOK.eq rfl))
 | .rangeFunc f ps asg bd,kn,kx,kr,tm,H,h=>by
  replace h:(onO (Z1C gl tm f) λv=>rf v ps asg bd kn kx kr tm H):=h
  obtain⟨v,hv,h⟩:=Z01 h
  exact hrf f v ps asg bd kn kx kr tm H hv h
 | .scope ..,kn,kx,kr,tm,H,h=>(h:False).elim
 | .label ..,kn,kx,kr,tm,H,h=>(h:False).elim
 | .goto ..,kn,kx,kr,tm,H,h=>(h:False).elim
 | .refuse ..,kn,kx,kr,tm,H,h=>(h:False).elim
theorem Z2J {fuel : Nat} {cw : CW} (hcw : ZaV P orc cw) : ∀ (c : Code) {kn : Tr -> Z00 -> Prop} {kx : Nat -> Tr -> Z00 -> Prop} {kr : Tr -> Z00 -> Prop} {tm : Tr} {H : Z00},
  Z1Q P gl orc cw Z4S c kn kx kr tm H->∃x tm' H',Z0A P gl orc fuel c tm H=some (x,tm',H')/\ZmB kn kx kr x tm' H'
 | .skip,kn,kx,kr,tm,H,h=>⟨.normal,tm,H,rfl,h⟩
 | .region id ops draw,kn,kx,kr,tm,H,h=>by
  cases draw with
  |true =>
   replace h:ZfR P gl orc cw ops.toList tm H kn:=h
   obtain⟨tm',H',h1,h⟩:=ZcN P gl orc cw hcw h
   exact⟨.normal,tm',H',by simp only[Z0A,if_true,h1],h⟩
  |false =>
   replace h:Zjk P gl orc cw ops.toList ops.toList tm H kn:=h
   obtain⟨tm',H',h1,h⟩:=Z8N P gl orc cw hcw h
   exact⟨.normal,tm',H',by simp only[Z0A,Y03,if_false,h1],h⟩
 | .seq c d,kn,kx,kr,tm,H,h=>by
  replace h:Z1Q P gl orc cw Z4S c (λtm H=>Z1Q P gl orc cw Z4S d kn kx kr tm H) kx kr tm H:=h
  obtain⟨x,tm1,H1,h1,h⟩:=Z2J (fuel:=fuel) hcw c h
  cases x with
  |normal =>
   obtain⟨x2,tm2,H2,h2,h⟩:=Z2J (fuel:=fuel) hcw d (show Z1Q P gl orc cw Z4S d kn kx kr tm1 H1 from h)
   exact⟨x2,tm2,H2,by simp only[Z0A,h1,h2],h⟩
  |exit id=>exact⟨.exit id,tm1,H1,by simp only[Z0A,h1],h⟩
  |ret=>exact⟨.ret,tm1,H1,by simp only[Z0A,h1],h⟩
 | .cond e c d,kn,kx,kr,tm,H,h=>by
  replace h:(onO (Z1C gl tm e) λv=>match v with
   | .bool t=>(t=true->Z1Q P gl orc cw Z4S c kn kx kr tm H)/\(t=false->Z1Q P gl orc cw Z4S d kn kx kr tm H)
   |_=>False):=h
  obtain⟨v,hv,h⟩:=Z01 h
  split at h
  · rename_i t
    cases t with
    |true=>obtain⟨x,tm1,H1,h1,h⟩:=Z2J (fuel:=fuel) hcw c (h.1 rfl);exact⟨x,tm1,H1,by simp only[Z0A,hv,h1],h⟩
    |false=>obtain⟨x,tm1,H1,h1,h⟩:=Z2J (fuel:=fuel) hcw d (h.2 rfl);exact⟨x,tm1,H1,by simp only[Z0A,hv,h1],h⟩
  ·exact h.elim
 | .block id b,kn,kx,kr,tm,H,h=>by
  replace h:Z1Q P gl orc cw Z4S b kn (λid' tm H=>match Y00 id' id with|true=>kn tm H|false=>kx id' tm H) kr tm H:=h
  obtain⟨x,tm1,H1,h1,h⟩:=Z2J (fuel:=fuel) hcw b h
  cases x with
  |normal=>exact⟨.normal,tm1,H1,by simp only[Z0A,h1],h⟩
  |ret=>exact⟨.ret,tm1,H1,by simp only[Z0A,h1],h⟩
  |exit id' =>
   have h:(match Y00 id' id with|true=>kn tm1 H1|false=>kx id' tm1 H1):=h
   cases hb:Y00 id' id with
   |true=>rw[hb]at h;exact⟨.normal,tm1,H1,by simp only[Z0A,h1,hb,if_true],h⟩
   |false=>rw[hb]at h;exact⟨.exit id',tm1,H1,by simp only[Z0A,h1,hb,Y03,if_false],h⟩
 | .loop b,kn,kx,kr,tm,H,h=>(h:False).elim
 | .exit id,kn,kx,kr,tm,H,h=>⟨.exit id,tm,H,rfl,h⟩
 | .ret,kn,kx,kr,tm,H,h=>⟨.ret,tm,H,rfl,h⟩
 | .rangeFunc f ps asg bd,kn,kx,kr,tm,H,h=>by
  replace h:(onO (Z1C gl tm f) λ_=>False):=h
  obtain⟨_,_,h⟩:=Z01 h
  exact h.elim
 | .scope ..,kn,kx,kr,tm,H,h=>(h:False).elim
 | .label ..,kn,kx,kr,tm,H,h=>(h:False).elim
 | .goto ..,kn,kx,kr,tm,H,h=>(h:False).elim
 | .refuse ..,kn,kx,kr,tm,H,h=>(h:False).elim
theorem Z5J {fn : Func} {tmps : Array Value} {Q : Ending -> World -> Prop} : ∀ (ds : List Nat) (W : World), ds.Nodup -> (∀ D ∈ ds, W.heap[D]? = some (.deferred (some []))) ->
  (∀W',Shut ds W W'->∃v,(results fn tmps).run P W' = .ok v W'/\Q (.returned v) W')->LeavesInM (Fq none) 0 P fn tmps Q (ds.map Zkh) .returning W
 |[],W,hn,hd,h=>by
  obtain⟨v,h1,h2⟩:=h W ⟨λ_ _=>rfl,rfl,rfl,rfl,rfl⟩
  exact⟨v,h1,h2⟩
 |D::ds,W,hn,hd,h=>by
  have hn':=List.nodup_cons.1 hn
  refine⟨by simp,.inl ⟨D,W.putObj D (.deferred none),rfl,run_takeDeferred (hd D (by simp)),?_⟩⟩
  have hlt:D<W.heap.size:=(Y0p.1 (hd D (by simp))).1
  refine Z5J ds _ hn'.2 (λE hE=>?_) λW' hs=>h W' ?_
  · rw[World.putObj_heap_other (by rintro rfl;exact hn'.1 hE)]
    exact hd E (by simp[hE])
  · refine⟨λc hc=>?_,by rw[hs.size];simp,hs.os,hs.tape,hs.output⟩
    simp only[Y06,not_or]at hc
    rw[hs.other c hc.2,World.putObj_heap_other hc.1]
theorem Z3P {f : Nat} {fn : Func} {c : Code} {args : List AV} {cargs : List Value} {H0 : Z00} {W : World} {sn : Z0f} {ι : Z0c} {Φ : AEx -> Tr -> Z00 -> Prop} {Q : Ending -> World -> Prop} (hf : P.funcs[f]? = some fn) (hc : fn.body = some c)
  (h:Tri P gl none k c (tmk (Z7E args fn.ntmps args.length) (Z7C 20 fn.ntmps)) H0 Φ) (hg:GlOK gl sn) (hR:R sn ι H0 W) (ha:LR sn ι args cargs) (hx:∀id tm H,¬Φ (.exit id) tm H)
  (hq:∀x tm1 H1 a1 W1 sn1 ι1,Φ x tm1 H1->Stq k sn ι H0 W sn1 ι1 H1 W1->TRel sn1 ι1 tm1 a1->∃v,(results fn a1.tmps).run P W1 = .ok v W1/\Q (.returned v) W1):Calls P f cargs.toArray W Q:=by
 refine Zaw.1 (callsIn_of_wp_marks (F:=Fq none) (n:=0) hf hc trivial (h _ W sn ι _ hg hR (Z7U ha _ _ _) λx tm1 H1 a1 W1 sn1 ι1 hx1 s1 t1 d1=>?_))
 have key:LeavesInM (Fq none) 0 P fn a1.tmps Q a1.defers .returning W1:=by
  obtain⟨ds,e,n1,hd⟩:=d1
  have e:a1.defers=ds.map Zkh:=by rw[e];simp
  rw[e]
  exact Z5J ds W1 n1 (λD hD=>(hd D hD).2.1) λW2 hs=>hq x tm1 H1 a1 W2 sn1 ι1 hx1 (s1.shut hd hs) t1
 cases x with
 |normal=>exact key
 |ret=>exact key
 |exit id=>exact (hx id tm1 H1 hx1).elim
end code
end Go.Abs
end
section
namespace Go.Abs
open Go.RowKit
def Z3o(f:AV->Option AV):List AV->Option (List AV)
 |[]=>some []
 |c::l=>match f c,Z3o f l with|some x,some y=>some (x::y)|_,_=>none
def frz(H:Z00):Nat->AV->Option AV
 |0,_=>none
 |n+1,u=>match u with
  | .ptr b off=>match H[b]? with
   |some o=>match o.alive,o.body with
    |true,.cells cs _=>match Z3o (frz H n) (cs.drop off) with|some l=>some (.rp l)|none=>none
    |_,_=>none
   |none=>none
  | .slice b off len _ z=>match len with
   |0=>some (.rs 0 z [])
   |_+1=>match H[b]? with
    |some o=>match o.alive,o.body with
     |true,.cells cs _=>match tk (len*z) (cs.drop off) with
      |some cs=>match Z3o (frz H n) cs with|some l=>some (.rs len z l)|none=>none
      |none=>none
     |_,_=>none
    |none=>none
  | .agg cs=>match Z3o (frz H n) cs with|some l=>some (.agg l)|none=>none
  | .tuple cs=>match Z3o (frz H n) cs with|some l=>some (.tuple l)|none=>none
  | .iface t v=>match frz H n v with|some x=>some (.iface t x)|none=>none
  | .func fn f c=>match Z3o (frz H n) f,Z3o (frz H n) c with|some f,some c=>some (.func fn f c)|_,_=>none
  | .map _=>none
  |u=>some u
section frz
variable {sn:Z0f} {ι : Z0c} {H:Z00} {W:World} {g:Nat}
theorem Z1c{f:AV->Option AV}{sn':Z0f}(hf:∀u r v,f u=some r->VR sn ι u v->VR sn' noI r v):∀{l l':List AV}{vs:List Value},Z3o f l=some l'->LR sn ι l vs->LR sn' noI l' vs
 |[],l',vs,h,e=>by simp[Z3o]at h;subst h;simpa[LR]using e
 |c::l,l',vs,h,e=>by
  simp only[Z3o]at h
  split at h<;>simp at h
  rename_i x y hx hy
  subst h
  simp only[LR]at e⊢
  obtain⟨d,ds,rfl,h1,h2⟩:=e
  exact⟨d,ds,rfl,hf _ _ _ hx h1,Z1c hf hy h2⟩
theorem Z4W{f:AV->Option AV}:∀{l l':List AV},Z3o f l=some l'->l'.length=l.length/\∀(i:Nat)(x:AV),l'[i]? = some x->∃c,l[i]? = some c/\f c=some x
 |[],l',h=>by simp[Z3o]at h;subst h;simp
 |c::l,l',h=>by
  simp only[Z3o]at h
  split at h<;>simp at h
  rename_i x y hx hy
  subst h
  obtain⟨h1,h2⟩:=Z4W hy
  refine⟨by simp[h1],λi z hz=>?_⟩
  cases i with
  |zero=>simp at hz;subst hz;exact⟨c,rfl,hx⟩
  |succ i=>simpa using h2 i z (by simpa using hz)
theorem Z2d{sn:Z0f}:∀{us:List AV}{b o:Nat},(∀(i:Nat)(u:AV),us[i]? = some u->∃v,sn ⟨b,o+i,none⟩=some v/\VR sn noI u v)->MR sn us b o
 |[],b,o,h=>by simp[MR]
 |u::us,b,o,h=>by
  simp only[MR]
  refine⟨by simpa using h 0 u rfl,Z2d λi x hx=>?_⟩
  have:=h (i+1) x (by simpa using hx)
  rwa [show o+(i+1)=o+1+i from by omega]at this
theorem Zfq (hR : R sn ι H W) (hfr : ∀ (b : Nat) (o : AObj) p, H[b]? = some o -> o.alive = true -> ι b = some p -> g <= p.blk) :
  ∀(n:Nat)(u r:AV)(v:Value),frz H n u=some r->VR sn ι u v->VR (snx sn g W) noI r v:=by
 have hle:Le sn (snx sn g W) noI noI:=⟨λa v hv=>by
  unfold snx
  split
  ·exact hv
  ·exact (hR.snap a v hv).2.1,λ_ _ h=>h⟩
 intro n
 induction n with
 |zero=>intro u r v h;simp[frz]at h
 |succ n ih =>
  have cells:∀{b:Nat}{o:AObj}{p:Place}{cs l:List AV}{ty:TypeId}{off:Nat},H[b]? = some o->o.alive=true->o.body = .cells cs ty -> ι b=some p->Z3o (frz H n) (cs.drop off)=some l->MR (snx sn g W) l p.blk (p.sh+off):=by
   intro b o p cs l ty off ho ha hb hp hl
   obtain⟨_,h2⟩:=Z4W hl
   have hor:=hR.obj b o p ho ha hp
   rw[hb]at hor
   simp only[OR]at hor
   obtain⟨arr,k1,k2,k3,k4⟩:=hor
   refine Z2d λi x hx=>?_
   obtain⟨c,hc,hcx⟩:=h2 i x hx
   rw[List.getElem?_drop]at hc
   obtain⟨v,e1,e2⟩:=k4 (off+i) c hc
   refine⟨v,?_,ih c x v hcx e2⟩
   have hge:=hfr b o p ho ha hp
   unfold snx
   rw[if_neg (by show ¬p.blk<g;omega),Z1q k1]
   rw[<- e1];congr 1;omega
  intro u r v h hv
  unfold frz at h
  split at h
  · rename_i b off
    split at h<;>try (simp at h;done)
    rename_i o ho
    split at h<;>try (simp at h;done)
    rename_i cs ty ha hb
    split at h<;>simp at h
    rename_i l hl
    subst h
    obtain⟨p,hp,rfl⟩:=hv.ptr
    simp only[VR]
    exact⟨_,_,rfl,cells ho ha hb hp hl⟩
  · rename_i b off len cap z
    obtain⟨p,a,cap',hp,rfl,h1,h2,h3⟩:=hv.slice
    split at h
    · simp at h;subst h
      simp only[VR]
      exact .inr ⟨a,cap',rfl,by omega,by simp,by simp[MR],λh=>absurd rfl h⟩
    · rename_i len
      split at h<;>try (simp at h;done)
      rename_i o ho
      split at h<;>try (simp at h;done)
      rename_i cs ty ha hb
      split at h<;>try (simp at h;done)
      rename_i cs' hcs
      split at h<;>simp at h
      rename_i l hl
      subst h
      obtain⟨ha',_⟩:=h3 (by omega)
      subst ha'
      obtain⟨e1,rfl⟩:=Z3s hcs
      obtain⟨f1,f2⟩:=Z4W hl
      simp only[VR]
      refine .inr ⟨_,cap',rfl,by omega,?_,?_,λ_=>rfl⟩
      ·rw[f1,List.length_take];exact Nat.min_eq_left e1
      · have hor:=hR.obj b o p ho ha hp
        rw[hb]at hor
        simp only[OR]at hor
        obtain⟨arr,k1,k2,k3,k4⟩:=hor
        refine Z2d λi x hx=>?_
        obtain⟨c,hc,hcx⟩:=f2 i x hx
        rw[List.getElem?_take]at hc
        split at hc<;>try (simp at hc;done)
        rw[List.getElem?_drop]at hc
        obtain⟨v,g1,g2⟩:=k4 (off+i) c hc
        refine⟨v,?_,ih c x v hcx g2⟩
        have hge:=hfr b o p ho ha hp
        unfold snx
        rw[if_neg (by show ¬p.blk<g;omega),Z1q k1]
        rw[<- g1];congr 1;simp only;omega
  · split at h<;>simp at h
    rename_i l hl;subst h
    obtain⟨d,rfl,h1⟩:=hv.agg
    exact Z4c (Z1c ih hl h1)
  · split at h<;>simp at h
    rename_i l hl;subst h
    obtain⟨d,rfl,h1⟩:=hv.tuple
    exact Z4D (Z1c ih hl h1)
  · split at h<;>simp at h
    rename_i x hx;subst h
    obtain⟨y,rfl,h1⟩:=hv.iface
    simp only[VR];exact⟨y,rfl,ih _ _ _ hx h1⟩
  · split at h<;>simp at h
    rename_i f c hf hc;subst h
    obtain⟨x,y,rfl,h1,h2⟩:=hv.func
    simp only[VR];exact⟨x,y,rfl,Z1c ih hf h1,Z1c ih hc h2⟩
  ·simp at h
  · rename_i e1 e2 e3 e4 e5 e6 e7
    simp at h;subst h
    cases u with
    |ptr b o=>exact (e1 _ _ rfl).elim
    |slice b o l c z=>exact (e2 _ _ _ _ _ rfl).elim
    |agg cs=>exact (e3 _ rfl).elim
    |tuple cs=>exact (e4 _ rfl).elim
    |iface t v=>exact (e5 _ _ rfl).elim
    |func fn f c=>exact (e6 _ _ _ rfl).elim
    |map b=>exact (e7 _ rfl).elim
    |_=>exact Z0U (ι:=noI) hle _ _ (Z1m (ι:=ι) _ [] _ (λb hb=>by simp[Z0W]at hb) hv)
end frz
def ValOK(P:Program)(gl:Z0n)(f:Nat)(args:List AV)(r:AV):Prop :=
 ∀(sn:Z0f)(W:World)(cargs:List Value),GlOK gl sn->R sn noI [] W->LR sn noI args cargs ->
  Calls P f cargs.toArray W λe W'=>∃v,e = .returned v/\Ext W W'/\VR (snx sn W.heap.size W') noI r v
theorem R.none{sn:Z0f}{ι : Z0c}{H:Z00}{W:World}(h:R sn ι H W):R sn noI [] W :=
 ⟨fun b => ⟨fun hb => by simp at hb, fun ⟨p, hp⟩ => by simp [noI] at hp⟩, fun b p hp => by simp [noI] at hp, fun b o p hb => by simp at hb, fun b b' o o' p p' hb => by simp at hb,
   λa v hv=>⟨(h.snap a v hv).1,(h.snap a v hv).2.1,λb o p hb=>by simp at hb⟩,λb o p hb=>by simp at hb⟩
theorem Stq.ext{k:Nat}{sn sn':Z0f}{ι':Z0c}{H':Z00}{W W':World}(h:Stq k sn noI [] W sn' ι' H' W'):Ext W W' :=
 ⟨λc hc=>h.frame c hc λb o p hb=>by simp at hb,h.size,h.os,h.tape,h.output⟩
def ZiB(F:Nat->List AV->Option AV):Orc:=λf args H=>match F f args with|some r=>some (r,H)|none=>none
theorem Z5j{P:Program}{gl:Z0n}{F:Nat->List AV->Option AV}(h:∀f args r,F f args=some r->refsL args []=[]/\ValOK P gl f args r):OrcSound P gl (ZiB F):=by
 intro f args H r H' hf sn ι W cargs hg hR ha
 unfold ZiB at hf
 split at hf<;>simp at hf
 rename_i r' hr
 obtain⟨rfl,rfl⟩:=hf
 obtain⟨h1,h2⟩:=h f args r' hr
 refine .inl ((h2 sn W cargs hg hR.none (LR_refs args [] _ (λb hb=>by rw[h1]at hb;cases hb) ha)).mono ?_)
 rintro e W' ⟨v,rfl,hx,hv⟩
 exact⟨v,_,ι,rfl,ZcY hv,Stp.snap hR hx⟩
def Z5Y(o1 o2:Orc):Orc:=λf args H=>match o1 f args H with|some r=>some r|none=>o2 f args H
theorem Z6O{P:Program}{gl:Z0n}{o1 o2:Orc}(h1:OrcSound P gl o1)(h2:OrcSound P gl o2):OrcSound P gl (Z5Y o1 o2):=by
 intro f args H r H' hf
 unfold Z5Y at hf
 split at hf
 · rename_i x hx
   simp at hf;subst hf
   exact h1 f args H r H' hx
 ·exact h2 f args H r H' hf
def Z3y:List AV->AV
 |[v]=>v
 |vs=>.tuple vs
def Ze2(P:Program)(gl:Z0n)(orc:Orc)(isC:Nat->Bool):Nat->Orc
 |0=>orc
 |n+1=>λf args H=>match isC f || !(Z0k P f) with|true=>orc f args H|false=>Z9q P gl (Ze2 P gl orc isC n) 0 f args H
theorem Z84{P:Program}{gl:Z0n}{orc:Orc}{isC:Nat->Bool}(hm:P.follows .mixedOrders=true)(hn:NoNum P)(hO:OrcSound P gl orc):∀n,OrcSound P gl (Ze2 P gl orc isC n)
 |0=>hO
 |n+1=>by
  intro f args H r H' hf
  simp only[Ze2]at hf
  split at hf
  ·exact hO f args H r H' hf
  ·exact Z7u (fuel:=0) hm hn (Z84 hm hn hO n) f args H r H' hf
noncomputable def ZiZ(P:Program)(gl:Z0n)(orc:Orc)(isC:Nat->Bool):Nat->CW :=
 Nat.rec (motive:=λ_=>CW) (cw0 P orc) (λn ih g args H k=>match isC g || !(Z0k P g) with
  |true=>∃y,Z0e P orc H g args=some y/\Z6k y.1 λr=>frcHW y.2 λH'=>k r H'
  |false=>onO P.funcs[g]? λfn=>onO fn.body λc=>Z0s (tmk (Z7E args fn.ntmps args.length) (Z7C 20 fn.ntmps)) λtm =>
   Z1Q P gl (Ze2 P gl orc isC n) ih Z4S c (λtm H=>onO (Z2i P tm H fn.results.toList) λvs=>Z6k (Z3y vs) λr=>k r H) (λ_ _ _=>False) (λtm H=>onO (Z2i P tm H fn.results.toList) λvs=>Z6k (Z3y vs) λr=>k r H) tm H)
def Zfy(P:Program)(l:List ResultVar)(Φ : AV->Prop)(tm:Tr)(H:Z00):Prop:=onO (Z2i P tm H l) λvs=>∃r,frz H 30 (Z3y vs)=some r /\ Φ r
theorem ZbX{P:Program}{gl:Z0n}{orc:Orc}{isC:Nat->Bool}:∀n,ZaV P (Ze2 P gl orc isC n) (ZiZ P gl orc isC n)
 |0=>ZcO P orc
 |n+1=>by
  intro g args H k h
  replace h:(match isC g || !(Z0k P g) with
   |true=>∃y,Z0e P orc H g args=some y/\Z6k y.1 λr=>frcHW y.2 λH'=>k r H'
   |false=>onO P.funcs[g]? λfn=>onO fn.body λc=>Z0s (tmk (Z7E args fn.ntmps args.length) (Z7C 20 fn.ntmps)) λtm =>
    Z1Q P gl (Ze2 P gl orc isC n) (ZiZ P gl orc isC n) Z4S c (λtm H=>onO (Z2i P tm H fn.results.toList) λvs=>Z6k (Z3y vs) λr=>k r H) (λ_ _ _=>False) (λtm H=>onO (Z2i P tm H fn.results.toList) λvs=>Z6k (Z3y vs) λr=>k r H) tm H):=h
  split at h
  · obtain⟨y,h1,h2⟩:=h
    rename_i hc
    rw[Z23,Z0m]at h2
    refine⟨y.1,y.2,?_,h2⟩
    have ho:Ze2 P gl orc isC (n+1) g=orc g:=by funext args H;simp only[Ze2,hc]
    have hy:yl (Ze2 P gl orc isC (n+1)) H g args=yl orc H g args:=by unfold yl;simp only[ho]
    unfold Z0e at h1⊢
    rw[ho,hy];exact h1
  · rename_i hb
    have hi:isC g=false:=by cases hq:isC g with|false=>rfl|true=>rw[hq]at hb;simp at hb
    have hb':Z0k P g=true:=by cases hq:Z0k P g with|true=>rfl|false=>rw[hq]at hb;simp at hb
    obtain⟨fn,hfn,h⟩:=Z01 h
    obtain⟨c,hc,h⟩:=Z01 h
    rw[Z09]at h
    unfold Z0e
    rw[if_pos hb']
    simp only[Ze2,hi,hb',Bool.not_true,Bool.or_false]
    obtain⟨x,tm1,H1,h1,h⟩:=Z2J (fuel:=0) (ZbX n) c h
    have fin:∀{tm1 H1},(onO (Z2i P tm1 H1 fn.results.toList) λvs=>Z6k (Z3y vs) λr=>k r H1)->∃us,Z2i P tm1 H1 fn.results.toList=some us/\k (Z3y us) H1:=λh=>by
     obtain⟨us,e1,e2⟩:=Z01 h
     rw[Z23]at e2
     exact⟨us,e1,e2⟩
    have done:∀{us:List AV},Z2i P tm1 H1 fn.results.toList=some us->(x = .normal\/x = .ret)->Z9q P gl (Ze2 P gl orc isC n) 0 g args H=some (Z3y us,H1):=by
     intro us e hx
     unfold Z9q
     simp only[hfn,hc,frcVL_eq,Z7b,h1]
     rcases hx with rfl|rfl
     all_goals
      simp only[e]
      match us with
      |[]=>rfl
      |[u]=>rfl
      |u::u'::l=>rfl
    cases x with
    |normal=>obtain⟨us,e1,e2⟩:=fin h;exact⟨_,_,done e1 (.inl rfl),e2⟩
    |exit id=>exact (h:False).elim
    |ret=>obtain⟨us,e1,e2⟩:=fin h;exact⟨_,_,done e1 (.inr rfl),e2⟩
theorem fn_valXR {rf : AV -> Array Tmp -> Code -> Code -> KN -> KX -> KN -> Tr -> Z00 -> Prop} {Φ : AV -> Prop} {P : Program} {gl : Z0n} {orc : Orc} (hrf : Zm4 P gl none 0 rf) (hm : P.follows .mixedOrders = true) (hn : NoNum P) (hO : OrcSound P gl orc) {f : Nat} {fn : Func} {c : Code} {args : List AV} {r : AV} (hΦ : ∀ r', Φ r' -> ∀ sn v, VR sn noI r' v -> VR sn noI r v)
  (hf:P.funcs[f]? = some fn) (hc:fn.body=some c)
  {cw:CW} (hcw:ZaV P orc cw)
  (h:Z0s (tmk (Z7E args fn.ntmps args.length) (Z7C 20 fn.ntmps)) λtm=>Z1Q P gl orc cw ⟨Z5n 0,rf⟩ c (Zfy P fn.results.toList Φ) (λ_ _ _=>False) (Zfy P fn.results.toList Φ) tm []):ValOK P gl f args r:=by
 intro sn W cargs hg hR ha
 rw[Z09]at h
 refine Z3P hf hc (Z1t (rd:=none) hrf hm hn hO hcw c h) hg hR ha (λ_ _ _ h=>h) λx tm1 H1 a1 W1 sn1 ι1 hx s1 t1=>?_
 have key:Zfy P fn.results.toList Φ tm1 H1->∃v,(results fn a1.tmps).run P W1 = .ok v W1/\VR (snx sn W.heap.size W1) noI r v:=by
  intro h
  obtain⟨us,h1,r',h2,h3⟩:=Z01 h
  obtain⟨vs,h4,h5⟩:=Z1l s1.rel t1 _ _ h1
  have hle:Le (snx sn1 W.heap.size W1) (snx sn W.heap.size W1) noI noI:=⟨λa v hv=>by
   unfold snx at hv⊢
   split at hv
   · rename_i hlt
     rw[if_pos hlt]
     rcases s1.sfresh a v hv with h|h|⟨b0,o0,p0,hb,_⟩
     ·exact h
     ·omega
     ·simp at hb
   · rename_i hlt
     rw[if_neg hlt];exact hv,λ_ _ h=>h⟩
  have hfr:∀(b:Nat)(o:AObj) p,H1[b]? = some o->o.alive=true -> ι1 b=some p->W.heap.size<=p.blk:=by
   intro b o p hb ha hp
   rcases s1.fresh b o p hb ha hp with h|⟨b0,o0,p0,hb,_⟩
   ·exact h
   ·simp at hb
  refine⟨_,Z1U h5,hΦ _ h3 _ _ (Z0U hle _ _ (Zfq s1.rel hfr 30 _ _ _ h2 ?_))⟩
  clear h1 h2 h3
  match us,h4 with
  |[],h4=>simp only[LR]at h4;subst h4;simp[Z3y,VR,LR]
  |[u],h4 =>
   simp only[LR]at h4
   obtain⟨d,ds,rfl,hd,rfl⟩:=h4
   simpa[Z3y]using hd
  |u::u'::l,h4 =>
   have hl:=h4.length
   simp only[Y0e]at hl
   have:vs.toArray.size≠1:=by simp[hl]
   rw[dif_neg this]
   simp only[Z3y,VR]
   exact⟨_,rfl,h4⟩
 cases x with
 |normal =>
  obtain⟨v,k1,k2⟩:=key hx
  exact⟨v,k1,v,rfl,s1.ext,k2⟩
 |exit id=>exact hx.elim
 |ret =>
  obtain⟨v,k1,k2⟩:=key hx
  exact⟨v,k1,v,rfl,s1.ext,k2⟩
theorem fn_valX {Φ : AV -> Prop} {P : Program} {gl : Z0n} {orc : Orc} (hm : P.follows .mixedOrders = true) (hn : NoNum P) (hO : OrcSound P gl orc) {f : Nat} {fn : Func} {c : Code} {args : List AV} {r : AV} (hΦ : ∀ r', Φ r' -> ∀ sn v, VR sn noI r' v -> VR sn noI r v)
  (hf:P.funcs[f]? = some fn) (hc:fn.body=some c)
  {cw:CW} (hcw:ZaV P orc cw)
  (h:Z0s (tmk (Z7E args fn.ntmps args.length) (Z7C 20 fn.ntmps)) λtm=>Z1Q P gl orc cw ZgX c (Zfy P fn.results.toList Φ) (λ_ _ _=>False) (Zfy P fn.results.toList Φ) tm []):ValOK P gl f args r :=
 fn_valXR (λ_ _ _ _ _ _ _ _ _ _ _ h=>h.elim) hm hn hO hΦ hf hc hcw h
theorem Zk6 {P : Program} {gl : Z0n} {orc : Orc} (hm : P.follows .mixedOrders = true) (hn : NoNum P) (hO : OrcSound P gl orc) {f : Nat} {fn : Func} {c : Code} {args : List AV} {r : AV}
  (hf:P.funcs[f]? = some fn) (hc:fn.body=some c)
  {cw:CW} (hcw:ZaV P orc cw)
  (h:Z0s (tmk (Z7E args fn.ntmps args.length) (Z7C 20 fn.ntmps)) λtm=>Z1Q P gl orc cw ZgX c (Zfy P fn.results.toList (· = r)) (λ_ _ _=>False) (Zfy P fn.results.toList (· = r)) tm []):ValOK P gl f args r :=
 fn_valX (Φ:=(· = r)) hm hn hO (λr' e sn v h=>e ▸ h) hf hc hcw h
def Zml(r r':AV):Prop:=r'=r\/(r' = .nslice/\∃z,r = .rs 0 z [])
theorem ZjF{r:AV}:∀r',Zml r r'->∀sn v,VR sn noI r' v->VR sn noI r v:=by
 rintro r' (rfl|⟨rfl,z,rfl⟩) sn v h
 ·exact h
 ·simp only[VR]at h⊢;exact .inl ⟨trivial,trivial,h⟩
theorem Zfw {P : Program} {gl : Z0n} {orc : Orc} (hm : P.follows .mixedOrders = true) (hn : NoNum P) (hO : OrcSound P gl orc) {f : Nat} {fn : Func} {c : Code} {args : List AV} {r : AV} (hf : P.funcs[f]? = some fn) (hc : fn.body = some c)
  (h:Z0s (tmk (Z7E args fn.ntmps args.length) (Z7C 20 fn.ntmps)) λtm=>Z1Q P gl orc (cw0 P orc) ZgX c (Zfy P fn.results.toList (Zml r)) (λ_ _ _=>False) (Zfy P fn.results.toList (Zml r)) tm []):ValOK P gl f args r :=
 fn_valX hm hn hO ZjF hf hc (ZcO P orc) h
theorem Z0J {P : Program} {gl : Z0n} {orc : Orc} (hm : P.follows .mixedOrders = true) (hn : NoNum P) (hO : OrcSound P gl orc) {f : Nat} {fn : Func} {c : Code} {args : List AV} {r : AV} (hf : P.funcs[f]? = some fn) (hc : fn.body = some c)
  (h:Z0s (tmk (Z7E args fn.ntmps args.length) (Z7C 20 fn.ntmps)) λtm=>Z1Q P gl orc (cw0 P orc) ZgX c (Zfy P fn.results.toList (· = r)) (λ_ _ _=>False) (Zfy P fn.results.toList (· = r)) tm []):ValOK P gl f args r :=
 Zk6 hm hn hO hf hc (ZcO P orc) h
end Go.Abs
end
section
namespace Go.Abs
open Go.RowKit
mutual
def plain:AV->Bool
 | .bool _=>true
 | .int _ _=>true
 | .str _=>true
 | .nptr=>true
 | .nslice=>true
 | .nmap=>true
 | .nfunc=>true
 | .niface=>true
 | .agg cs=>plainL cs
 | .tuple cs=>plainL cs
 | .iface _ u=>plain u
 |_=>false
def plainL:List AV->Bool
 |[]=>true
 |c::l=>plain c&&plainL l
end
def Zn5(F:Nat->List AV->Option AV):Orc:=λf args H=>match Z3o (frz H 30) args with
 |some az=>match F f az with|some r=>some (r,H)|none=>none
 |none=>none
theorem ZmF{t:Bool}{A B:Prop}(h:t=true)(a:A):(t=true->A)/\(t=false->B):=⟨λ_=>a,λe=>(by rw[h]at e;cases e)⟩
theorem ZmG{t:Bool}{A B:Prop}(h:t=false)(b:B):(t=true->A)/\(t=false->B):=⟨λe=>(by rw[h]at e;cases e),λ_=>b⟩
theorem Z04{t:Bool}{A B:Prop}(a:t=true->A)(b:t=false->B):(t=true->A)/\(t=false->B):=⟨a,b⟩
theorem exI{α : Type}{o:Option α}{r : α}{K : α -> Prop}(h:o=some r)(k:K r):∃r,o=some r/\K r:=⟨r,h,k⟩
theorem exW{α : Type}{x n : α}{K : α -> Prop}(h:x=n)(k:K n):∃n,x=n/\K n:=⟨n,h,k⟩
theorem Zm5{m j:Nat}(h:m+j<=9223372036854775807):IntKind.i64.wrap ((m:Int)+(j:Int))=((m+j:Nat):Int):=by rw[IntWalk.i64_in _ ⟨by omega,by omega⟩];omega
theorem Ze6{m:Nat}(h:m+1<=9223372036854775807):IntKind.i64.wrap ((m:Int)+1)=((m+1:Nat):Int):=by rw[IntWalk.i64_in _ ⟨by omega,by omega⟩];omega
theorem Z7D{n:Int}(h1 : -9223372036854775808<=n)(h2:n<=9223372036854775807):IntKind.i64.wrap n=n:=IntWalk.i64_in n ⟨h1,h2⟩
theorem ixJ{i:Int}{n:Nat}{K:Nat->Prop}(j:Nat)(h1:i=(j:Int))(h2:j<n)(k:K j):∃j:Nat,(i=(j:Int)/\j<n)/\K j:=⟨j,⟨h1,h2⟩,k⟩
theorem Zmw{i:Int}{n:Nat}{K:Nat->Prop}(j:Nat)(h1:i=(j:Int))(h2:j<=n)(k:K j):∃j:Nat,(i=(j:Int)/\j<=n)/\K j:=⟨j,⟨h1,h2⟩,k⟩
theorem ixS{i:Int}{s:List UInt8}{K:Nat->UInt8->Prop}(j:Nat){b:UInt8}(h1:i=(j:Int))(h2:s[j]? = some b)(k:K j b):∃j:Nat,i=(j:Int)/\∃b,s[j]? = some b/\K j b:=⟨j,h1,b,h2,k⟩
theorem eqR{u v:AV}{K:Prop}(h:u=v)(k:K):u=v/\K:=⟨h,k⟩
theorem ZmJ{P:Program}{F:Nat->List AV->Option AV}{H:Z00}{g:Nat}{args fa:List AV}{r:AV}(h1:Z0k P g=true)(h2:Z3o (frz H 30) args=some fa)(h3:F g fa=some r):Z0e P (Zn5 F) H g args=some (r,H):=by
 simp only[Z0e,h1,if_true,Zn5,h2,h3]
end Go.Abs
end
section
namespace Go.Abs
open Go.RowKit Go.ChangeShapes Go.WideShapes Go.ChangeAt
def ZeO(P:Program)(t:TypeId):Bool:=match P.underlying t with
 |some (.slice e)=>Nat.blt e P.types.size && !(Y00 (P.cellsOf e) 0)
 |some (.pointer e)=>Nat.blt e P.types.size
 |some (.array _ e)=>Nat.blt e P.types.size
 |some (.map _ e)=>Nat.blt e P.types.size
 |some (.struct fs)=>fs.toList.all λf=>Nat.blt f.type P.types.size
 |_=>true
def Solid(P:Program):Prop:=((List.range P.types.size).all λt=>ZeO P t)=true
theorem Solid.at{P:Program}(h:Solid P){t:TypeId}(ht:t<P.types.size):ZeO P t=true:=Y0k.1 h t (List.mem_range.2 ht)
theorem Z5Q{a b:Nat}(h:Nat.blt a b=true):a<b:=by simpa[Y09]using h
section keep
variable {H:Type} {enc:TypeId×Value->H} {P:Program} {w w':World} {base:Nat} {sp:Nat->Bool}
theorem Zd8(hP:Solid P):∀(n:Nat)(t:TypeId)(cs:List Value)(x:DataW H×List MemPlace),t<P.types.size->DataW.trod enc P w base (λ_=>true) true n t cs=some x->(∀p∈x.2,sp p.block=true)->DataW.trod enc P w base sp true n t cs=some x:=by
 intro n
 induction n with
 |zero=>intro t cs x _ h;simp[DataW.trod]at h
 |succ n ih =>
  intro t cs x htl h hs
  have hok:=hP.at htl
  unfold ZeO at hok
  rw[DataW.trod_step]at h⊢
  unfold DataW.trodStep at h⊢
  split at h
  case h_6 e a hu =>
   simp only[hu]at hok
   simp only[Y0b,Y08]at h⊢
   obtain⟨y,⟨cs',hc,hy⟩,rfl⟩:=h
   exact⟨y,⟨cs',hc,ih _ _ _ (Z5Q hok) hy λp hp=>hs p (by simp[hp])⟩,rfl⟩
  case h_8 e a len cap hu =>
   simp only[hu,Y01]at hok
   have hel:=Z5Q hok.1
   have hz:P.cellsOf e≠0:=λh0=>by rw[h0]at hok;cases hok.2
   simp only[if_true]at h⊢
   split at h
   · rename_i hc
     rw[if_pos hc]
     simp only[Y0b,Y08]at h⊢
     obtain⟨els,he,rest,hrest,rfl⟩:=h
     have each : ∀ (i : Nat) (y : DataW H × List MemPlace), y ∈ els ++ rest -> (w.cells? base (a.add (i * P.cellsOf e)) (P.cellsOf e)).bind (DataW.trod enc P w base (fun _ => true) true n e) = some y ->
       (w.cells? base (a.add (i*P.cellsOf e)) (P.cellsOf e)).bind (DataW.trod enc P w base sp true n e)=some y:=by
      intro i y hy hv
      simp only[Y08]at hv⊢
      obtain⟨cs',h1,h2⟩:=hv
      exact⟨cs',h1,ih _ _ _ hel h2 λp hp=>hs p (by simp only[Y0j,Y0m];exact .inr ⟨y,by simpa using hy,hp⟩)⟩
     refine⟨els,mapM_carry he λi y _ hy hv=>each i y (by simp[hy]) hv,rest,?_,rfl⟩
     have hr:=mapM_carry hrest λj y _ hy hv=>each (len+j) y (by simp[hy]) hv
     cases hsp:sp a.block with
     |true=>simpa using hr
     |false =>
      have h0:rest=[]:=by
       cases hq:rest with
       |nil=>rfl
       |cons y l =>
        exfalso
        have h1:0<(els.length+rest.length)*P.cellsOf e:=Nat.mul_pos (by rw[hq];simp only[Y0e];omega) (by omega)
        have:=hs (.cell a.block (a.off+0)) (by simp only[Y0j];exact .inl (MemPlace.mem_row.2 ⟨0,h1,rfl⟩))
        simp only[MemPlace.block]at this
        rw[hsp]at this;cases this
      subst h0
      have hl:([]:List (DataW H×List MemPlace)).length=cap-len:=by simpa using mapM_some_length hrest
      rfl
   ·cases h
  case h_9 fs hu =>
   simp only[hu]at hok
   split at h
   · rename_i hc
     rw[if_pos hc]
     simp only[Y0b]at h⊢
     obtain⟨xs,hx,rfl⟩:=h
     exact⟨xs,mapM_carry hx λf y hf hy hv=>ih _ _ _ (Z5Q (Y0k.1 hok f hf)) hv λp hp=>hs p (Y0m.2 ⟨y,hy,hp⟩),rfl⟩
   ·cases h
  case h_10 k e hu =>
   simp only[hu]at hok
   split at h
   · rename_i hc
     rw[if_pos hc]
     simp only[Y0b]at h⊢
     obtain⟨xs,hx,rfl⟩:=h
     exact⟨xs,mapM_carry hx λf y _ hy hv=>ih _ _ _ (Z5Q hok) hv λp hp=>hs p (Y0m.2 ⟨y,hy,hp⟩),rfl⟩
   ·cases h
  case h_12=>split at h<;>first|exact h|(rename_i e _;cases e)|cases h
  case h_14 k e b hu =>
   simp only[hu]at hok
   split at h
   · rename_i es clock hb
     split at h
     · rename_i hc
       simp only[Y08]at h
       obtain⟨entries,he,hd⟩:=h
       split at hd
       · rename_i hris
         have hx:=Option.some.inj hd
         subst hx
         simp only[hb,if_pos hc,Y08]
         refine⟨entries,mapM_carry he (λx y _ hy hv=>?_),by simp[hris]⟩
         simp only[Y08]at hv⊢
         obtain⟨key,hk,hz⟩:=hv
         refine⟨key,hk,?_⟩
         split at hz
         · rename_i hf
           rw[if_pos hf]
           simp only[Y0b]at hz⊢
           obtain⟨q,hq,rfl⟩:=hz
           exact⟨q,ih _ _ _ (Z5Q hok) hq λp hp=>hs p (by simp only[Y06,Y0m];exact .inr ⟨_,hy,hp⟩),rfl⟩
         ·cases hz
       ·cases hd
     ·cases h
   ·cases h
  all_goals first|exact h|cases h
theorem Zdc(he:Ext w w'){p:MemPlace}(hp:p.block<w.heap.size):w.sameAt w' p:=by
 cases p with
 |cell b off =>
  have:=he.old b hp
  simp only[World.sameAt,World.cell?,this]
 |map b=>exact he.old b hp
theorem Z5C (hP : Solid P) (he : Ext w w') : ∀ {ts : List TypeId} {vs : List Value} {ds : List (DataW H)} {ps : List MemPlace}, (∀ t ∈ ts, t < P.types.size) -> DataW.TrodAll enc P w base (fun _ => true) true ts vs ds ps -> (∀ p ∈ ps, p.block < w.heap.size) -> (∀ p ∈ ps, sp p.block = true) ->
  DataW.TrodAll enc P w' base sp true ts vs ds ps
 |[],[],[],ps,_,h,_,_=>h
 |t::ts,v::vs,d::ds,ps,ht,h,h1,h2=>by
  obtain⟨p,q,⟨fuel,hp⟩,hq,rfl⟩:=h
  refine⟨p,q,⟨fuel,Zd8 hP _ _ _ _ (ht t (by simp)) (DataW.trod_carry _ _ _ _ hp λx hx=>Zdc he (h1 x (by simp[hx]))) λx hx=>h2 x (by simp[hx])⟩,
   Z5C hP he (λt h=>ht t (by simp[h])) hq (λx hx=>h1 x (by simp[hx])) (λx hx=>h2 x (by simp[hx])),rfl⟩
 |[],[],_::_,_,_,h,_,_=>h.elim
 |[],_::_,_,_,_,h,_,_=>h.elim
 |_::_,[],_,_,_,h,_,_=>h.elim
 |_::_,_::_,[],_,_,h,_,_=>h.elim
end keep
def Z65(P:Program)(t:TypeId)(Q:List AV->Prop):Prop :=
 ∀(H:Type)(enc:TypeId×Value->H)(W:World)(fuel:Nat)(cs:List Value)(x:DataW H×List MemPlace),DataW.trod enc P W 0 (λ_=>true) true fuel t cs=some x->∃us,Q us/\LR (Z27 W) noI us cs
section opens
variable {P:Program}
theorem Z85{t:TypeId}{Q Q':List AV->Prop}(h:Z65 P t Q)(hq:∀us,Q us->Q' us):Z65 P t Q':=λH enc W fuel cs x hx=>let ⟨us,h1,h2⟩:=h H enc W fuel cs x hx;⟨us,hq _ h1,h2⟩
theorem Z1v{t:TypeId}{k:IntKind}(ht:P.underlying t=some (.int k)):Z65 P t λus=>∃n,us=[.int k n]/\(Lit.int k n).wf=true:=by
 intro H enc W fuel cs x h
 obtain⟨n,rfl,_,hw⟩:=DataW.trod_int ht h
 exact⟨_,⟨n,rfl,hw⟩,by simp[LR,VR]⟩
theorem ZeL{t:TypeId}(ht:P.underlying t=some .string):Z65 P t λus=>∃s:List UInt8,us=[.str s]/\s.length<=maxLen:=by
 intro H enc W fuel cs x h
 obtain⟨s,rfl,_,hw⟩:=DataW.trod_string ht h
 refine⟨_,⟨s.data.toList,rfl,?_⟩,by simp[LR,VR]⟩
 have:s.data.toList.length=s.size:=by cases s;rfl
 omega
theorem cells?_get{W:World}{a:Addr}{n:Nat}{cs:List Value}(h:W.cells? 0 a n=some cs):cs.length=n/\∀(i:Nat)(v:Value),cs[i]? = some v->W.cell? (a.add i)=some v:=by
 unfold World.cells? at h
 rw[if_pos (Nat.zero_le _)]at h
 have hl:cs.length=n:=by simpa using mapM_some_length h
 refine⟨hl,λi v hv=>?_⟩
 have hi:i<n:=by rw[<- hl];exact (Y04.1 hv).1
 have:=mapM_some_get h i i (by simp[hi])
 rw[this,hv]
theorem Z5q{α : Type}{z:Nat}(hz:z≠0):∀{l:List (List α)}{k:Nat}{y : α},(∀u∈l,u.length=z)->l.flatten[k]? = some y->∃x,l[k / z]? = some x/\x[k % z]? = some y
 |[],k,y,h,hk=>by simp at hk
 |u::l,k,y,h,hk=>by
  have hu:=h u (by simp)
  simp only[List.flatten_cons]at hk
  by_cases hlt:k<z
  · rw[Y0l (by omega)]at hk
    exact⟨u,by simp[Nat.div_eq_of_lt hlt],by rw[Nat.mod_eq_of_lt hlt];exact hk⟩
  · rw[List.getElem?_append_right (by omega),hu]at hk
    obtain⟨x,h1,h2⟩:=Z5q hz (λv hv=>h v (by simp[hv])) hk
    have e1:k / z=(k-z) / z+1:=by
     rw[<- Nat.add_div_right _ (by omega),Nat.sub_add_cancel (by omega)]
    have e2:k % z=(k-z) % z:=by
     rw[<- Nat.add_mod_right (k-z) z,Nat.sub_add_cancel (by omega)]
    exact⟨x,by rw[e1];simpa using h1,by rw[e2];exact h2⟩
theorem Z7v(a:Addr)(h:a.spot=none)(i j:Nat):(a.add i).add j=⟨a.block,a.off+i+j,none⟩:=by
 obtain⟨b,o,s⟩:=a
 simp only at h
 subst h
 unfold Addr.add
 split<;>split<;>simp_all
theorem Z6P {t e : TypeId} {z : Nat} {Q : List AV -> Prop} (ht : P.underlying t = some (.slice e)) (hz : P.cellsOf e = z) (hz0 : z ≠ 0) (he : Z65 P e Q) :
  Z65 P t λus=>∃l:List (List AV),(∀u∈l,Q u/\u.length=z)/\us=[.rs l.length z l.flatten]/\l.length<=maxLen:=by
 intro H enc W fuel cs x h
 rcases DataW.trod_slice ht h with ⟨rfl,_⟩|⟨a,len,cap,els,rest,n,_,rfl,_,_,hlc,hcm,hl,hel,hrest⟩
 ·exact⟨_,⟨[],by simp,rfl,by simp⟩,by simp[LR,VR]⟩
 · rw[hz]at hel
   have each:∀i,i<len->∃ (vs:List Value) (u:List AV),W.cells? 0 (a.add (i*z)) z=some vs/\Q u/\LR (Z27 W) noI u vs:=by
    intro i hi
    have h1:=hel i hi
    have h2:els[i]? = some els[i]:=Y07 (by omega)
    rw[h2]at h1
    simp only[Y08]at h1
    obtain⟨vs,h3,h4⟩:=h1
    obtain⟨u,h5,h6⟩:=he H enc W n vs _ h4
    exact⟨vs,u,h3,h5,h6⟩
   have hex:∃ (l:List (List AV)) (vss:List (List Value)),l.length=len/\vss.length=len/\∀i,i<len->∃vs u,l[i]? = some u/\vss[i]? = some vs/\W.cells? 0 (a.add (i*z)) z=some vs/\Q u/\LR (Z27 W) noI u vs:=by
    clear hel hl h hlc hcm hrest
    induction len with
    |zero=>exact⟨[],[],rfl,rfl,λi hi=>by omega⟩
    |succ m ih =>
     obtain⟨l,vss,h1,h2,h3⟩:=ih λi hi=>each i (by omega)
     obtain⟨vs,u,g1,g2,g3⟩:=each m (by omega)
     refine⟨l++[u],vss++[vs],by simp[h1],by simp[h2],λi hi=>?_⟩
     by_cases e:i=m
     · subst e
       exact⟨vs,u,by simp[<- h1],by simp[<- h2],g1,g2,g3⟩
     · obtain⟨vs',u',k1,k2,k3⟩:=h3 i (by omega)
       exact⟨vs',u',by rw[Y0l (by omega)];exact k1,by rw[Y0l (by omega)];exact k2,k3⟩
   obtain⟨l,vss,h1,h2,h3⟩:=hex
   have hll:∀u∈l,Q u/\u.length=z:=by
    intro u hu
    obtain⟨i,hi,rfl⟩:=Y0n.1 hu
    obtain⟨vs,u',k1,k2,k3,k4,k5⟩:=h3 i (by omega)
    rw[Y07 hi]at k1;simp at k1
    rw[k1]
    exact⟨k4,by rw[<- k5.length,(cells?_get k3).1]⟩
   refine⟨_,⟨l,hll,rfl,by omega⟩,?_⟩
   simp only[LR]
   refine⟨_,_,rfl,?_,rfl⟩
   simp only[VR]
   have hfl:l.flatten.length=l.length*z:=by
    clear h1 h3
    induction l with
    |nil=>simp
    |cons u l ih=>simp only[List.flatten_cons,List.length_append,Y0e,(hll u (by simp)).2,ih λv hv=>hll v (by simp[hv])];rw[Nat.add_mul];omega
   have hspot:len≠0->a.spot=none:=by
    intro h0
    obtain⟨vs,u,k1,k2,k3,k4,k5⟩:=h3 0 (by omega)
    obtain⟨g1,g2⟩:=cells?_get k3
    have:W.cell? ((a.add (0*z)).add 0)=some vs[0]:=g2 0 _ (Y07 (by omega))
    rw[Nat.zero_mul]at this
    simpa[Addr.add]using World.cell?_spot this
   refine .inr ⟨a,cap,by rw[h1],by omega,hfl,Z2d λk u hu=>?_,λh0=>hspot (by rw[<- h1];exact h0)⟩
   obtain⟨x',g1,g2⟩:=Z5q hz0 (λu hu=>(hll u hu).2) hu
   have hklt:k / z<len:=by rw[<- h1];exact (Y04.1 g1).1
   obtain⟨vs,u',k1,k2,k3,k4,k5⟩:=h3 (k / z) hklt
   rw[g1]at k1;simp at k1;subst k1
   obtain⟨v,e1,e2⟩:=k5.get g2
   refine⟨v,?_,e2⟩
   have hc:=(cells?_get k3).2 _ _ e1
   rw[Z7v a (hspot (Nat.ne_of_gt (Nat.lt_of_le_of_lt (Nat.zero_le _) hklt)))]at hc
   have hk:a.off+k / z*z+k % z=a.off+k:=by rw[Nat.add_assoc,Nat.mul_comm,Nat.div_add_mod]
   rw[hk]at hc
   unfold Z27
   have hlt:a.block<W.heap.size:=by
    cases hq:W.heap[a.block]? with
    |none=>unfold World.cell? at hc;simp only[hq]at hc;cases hc
    |some ob=>exact (Y0p.1 hq).1
   rw[if_pos (by exact hlt)];exact hc
def FsQ:List (List AV->Prop)->List AV->Prop
 |[],us=>us=[]
 |Q::Qs,us=>∃u us',us=u++us'/\Q u/\FsQ Qs us'
def Z3k(P:Program):List Field->List (List AV->Prop)->Nat->Nat->Prop
 |[],[],off,tot=>off=tot
 |f::fs,Q::Qs,off,tot=>f.offset=off/\Z65 P f.type Q/\Z3k P fs Qs (off+P.cellsOf f.type) tot
 |_,_,_,_=>False
theorem Zcp {H : Type} {enc : TypeId × Value -> H} {W : World} {n tot : Nat} {cs : List Value} (hcs : cs.length = tot) : ∀ {fs : List Field} {Qs : List (List AV -> Prop)} {xs : List (DataW H × List MemPlace)} {off : Nat}, Z3k P fs Qs off tot -> xs.length = fs.length -> off <= tot ->
  (∀(i:Nat)(f:Field),fs[i]? = some f->DataW.trod enc P W 0 (λ_=>true) true n f.type ((cs.drop f.offset).take (P.cellsOf f.type))=xs[i]?)->∃us,FsQ Qs us/\LR (Z27 W) noI us (cs.drop off)
 |[],[],xs,off,h,hl,ho,hx=>by
  have:off=tot:=h
  subst this
  exact⟨[],rfl,by simp[LR,<- hcs]⟩
 |f::fs,Q::Qs,xs,off,h,hl,ho,hx=>by
  obtain⟨h1,h2,h3⟩:=h
  cases xs with
  |nil=>simp at hl
  |cons x xs =>
   have h0:=hx 0 f rfl
   simp only[List.getElem?_cons_zero]at h0
   obtain⟨u,q1,q2⟩:=h2 H enc W n _ _ h0
   have hle:∀(fs:List Field)(Qs:List (List AV->Prop))(o:Nat),Z3k P fs Qs o tot->o<=tot:=by
    intro fs
    induction fs with
    |nil=>intro Qs o h;cases Qs with|nil=>exact Nat.le_of_eq h|cons _ _=>exact h.elim
    |cons g gs ih=>intro Qs o h;cases Qs with|nil=>exact h.elim|cons _ _=>have:=ih _ _ h.2.2;omega
   obtain⟨us,q3,q4⟩:=Zcp hcs h3 (by simpa using hl) (hle _ _ _ h3) λi g hg=>by simpa using hx (i+1) g (by simpa using hg)
   refine⟨u++us,⟨u,us,rfl,q1,q3⟩,?_⟩
   rw[h1]at q2
   have:=q2.append q4
   rwa [<- List.drop_drop,List.take_append_drop]at this
 |[],_::_,xs,off,h,hl,ho,hx=>h.elim
 |_::_,[],xs,off,h,hl,ho,hx=>h.elim
theorem Z5F{t:TypeId}{fs:Array Field}{Qs:List (List AV->Prop)}(ht:P.underlying t=some (.struct fs))(h:Z3k P fs.toList Qs 0 (P.cellsOf t)):Z65 P t (FsQ Qs):=by
 intro H enc W fuel cs x hx
 obtain⟨xs,n,_,_,hl,hlen,hf⟩:=DataW.trod_struct ht hx
 obtain⟨us,h1,h2⟩:=Zcp hl h (by simpa using hlen) (Nat.zero_le _) λi f hi=>hf i f (by simpa using hi)
 exact⟨us,h1,by simpa using h2⟩
end opens
end Go.Abs
end
section
namespace Go.Abs
open Go.RowKit Go.ChangeShapes Go.WideShapes Go.ChangeAt
def Z7B(P:Program)(t:TypeId)(Q:AV->Prop):Prop :=
 ∀(H:Type)(enc:TypeId×Value->H)(W:World)(r:Reach)(b:Nat)(v:Value)(d:DataW H)(p:List MemPlace),Value.okWide P W r b t v->DataW.Trod enc P W 0 (λ_=>true) true t v d p->∃u,Q u/\VR (Z27 W) noI u v
section opens
variable {P:Program}
theorem Zlh{sn:Z0f}{ι : Z0c}{u:AV}{v:Value}(h:LR sn ι [u] [v]):VR sn ι u v:=by
 simp only[LR]at h
 obtain⟨d,ds,e,h1,h2⟩:=h
 simp at e;obtain⟨rfl,rfl⟩:=e
 exact h1
theorem Z9V {t e : TypeId} {z : Nat} {Q : List AV -> Prop} (ht : P.underlying t = some (.slice e)) (hz : P.cellsOf e = z) (hz0 : z ≠ 0) (he : Z65 P e Q) :
  Z7B P t λu=>∃l:List (List AV),(∀u∈l,Q u/\u.length=z)/\u = .rs l.length z l.flatten/\l.length<=maxLen:=by
 intro H enc W r b v d p hv ⟨fuel,h⟩
 obtain⟨a,n,c,rfl⟩:=okWide_slice ht hv
 obtain⟨us,hq,hl⟩:=Z6P ht hz hz0 he H enc W fuel _ _ h
 obtain⟨l,h1,rfl,h2⟩:=hq
 exact⟨_,⟨l,h1,rfl,h2⟩,Zlh (by simpa[Value.cells]using hl)⟩
theorem Z8Z{t:TypeId}{fs:Array Field}{Qs:List (List AV->Prop)}(ht:P.underlying t=some (.struct fs))(h:Z3k P fs.toList Qs 0 (P.cellsOf t)):Z7B P t λu=>∃us,u = .agg us/\FsQ Qs us:=by
 intro H enc W r b v d p hv ⟨fuel,hx⟩
 obtain⟨cs,rfl,_⟩:=okWide_struct ht hv
 obtain⟨us,hq,hl⟩:=Z5F ht h H enc W fuel _ _ hx
 exact⟨_,⟨us,rfl,hq⟩,Z4c (by simpa[Value.cells]using hl)⟩
theorem Z6Q{t:TypeId}{Q Q':AV->Prop}(h:Z7B P t Q)(hq:∀u,Q u->Q' u):Z7B P t Q':=λH enc W r b v d p hv ht=>let ⟨u,h1,h2⟩:=h H enc W r b v d p hv ht;⟨u,hq _ h1,h2⟩
end opens
def Z6r(P:Program):List TypeId->List (AV->Prop)->Prop
 |[],[]=>True
 |t::ts,Q::Qs=>Z7B P t Q/\Z6r P ts Qs
 |_,_=>False
def ZkL:List (AV->Prop)->List AV->Prop
 |[],[]=>True
 |Q::Qs,u::us=>Q u/\ZkL Qs us
 |_,_=>False
theorem Zin{us:List AV}(h:ZkL [] us):us=[]:=by cases us with|nil=>rfl|cons _ _=>exact h.elim
theorem ZaA{Q:AV->Prop}{Qs:List (AV->Prop)}{us:List AV}(h:ZkL (Q::Qs) us):∃u us',us=u::us'/\Q u/\ZkL Qs us':=by
 cases us with
 |nil=>exact h.elim
 |cons u us=>exact⟨u,us,rfl,h.1,h.2⟩
theorem Z9Y {P : Program} {H : Type} {enc : TypeId × Value -> H} {W : World} {r : Reach} {b : Nat} : ∀ {ts : List TypeId} {Qs : List (AV -> Prop)} {vs : List Value} {ds : List (DataW H)} {ps : List MemPlace}, Z6r P ts Qs ->
  (∀(j:Nat) t v,ts[j]? = some t->vs[j]? = some v->Value.okWide P W r b t v)->DataW.TrodAll enc P W 0 (λ_=>true) true ts vs ds ps->ds.length=ts.length/\∃us,ZkL Qs us/\LR (Z27 W) noI us vs
 |[],[],[],[],ps,ho,hv,h=>⟨rfl,[],trivial,by simp[LR]⟩
 |t::ts,Q::Qs,v::vs,d::ds,ps,ho,hv,h=>by
  obtain⟨p,q,hp,hq,_⟩:=h
  obtain⟨u,h1,h2⟩:=ho.1 H enc W r b v d p (hv 0 t v rfl rfl) hp
  obtain⟨hl,us,h3,h4⟩:=Z9Y ho.2 (λj t v ht hv'=>hv (j+1) t v (by simpa using ht) (by simpa using hv')) hq
  exact⟨by simp[hl],u::us,⟨h1,h3⟩,by simp only[LR];exact⟨v,vs,rfl,h2,h4⟩⟩
 |[],_::_,_,_,_,ho,_,_=>ho.elim
 |_::_,[],_,_,_,ho,_,_=>ho.elim
 |[],[],[],_::_,_,_,_,h=>h.elim
 |[],[],_::_,_,_,_,_,h=>h.elim
 |_::_,_::_,[],_,_,_,_,h=>h.elim
 |_::_,_::_,_::_,[],_,_,_,h=>h.elim
theorem law_calls {P : Program} {gl : Z0n} {f : Nat} {fn : Func} {s : ChangeSpec} {Qs : List (AV -> Prop)} {tb : TypeId} (hP : Solid P) (hts : (fn.params.toList.all fun t => Nat.blt t P.types.size) = true) (ho : Z6r P fn.params.toList Qs) (hlaw : ∀ us, ZkL Qs us -> ValOK P gl f us (.bool true))
  (hvars:s.vars=[]) (hfn:∀(H:Type)(ds:List (DataW H)),ds.length=fn.params.toList.length->(s.fn H ds).results=[.lit (.bool true)]/\(s.fn H ds).args=ds/\(s.fn H ds).vars=[]) (hr:fn.resultTypes = #[tb]) (hb:P.underlying tb=some .bool)
  {H:Type} {enc:TypeId×Value->H} {W:World} {base:Nat} {args:Array Value} {ds gs:List (DataW H)} {before:List MemPlace} (hg:GlOK gl (Z27 W))
  (hval:∀(j:Nat) t v,fn.params[j]? = some t->args[j]? = some v->Value.okWide P W .any base t v) (hW:DataW.Whole enc P fn.params.toList s.vars false W args.toList ds gs before) :
  Calls P f args W λe W'=>∃v,e = .returned v/\s.post enc P fn false true false false W args v W':=by
 have hW':=hW
 obtain⟨p,q,hA,hV,rfl,hfz,hnd⟩:=hW
 rw[hvars]at hV
 obtain⟨rfl,rfl⟩:=trodVars_none hV
 obtain⟨hl,us,hq,hlr⟩:=Z9Y ho (λj t v ht hv=>hval j t v (by simpa using ht) (by simpa using hv)) hA
 have hlt:∀x∈p++[],x.block<W.heap.size:=λx hx=>hW'.lt x hx
 refine ((hlaw us hq) (Z27 W) W args.toList hg (R0 W) hlr).mono ?_
 rintro e W' ⟨v,rfl,hx,hv⟩
 cases hv.bool
 obtain⟨h1,h2,h3⟩:=hfn H ds (by simpa using hl)
 refine⟨_,rfl,Zdg (pa:=p) (pv:=[]) hW' (λb sp hd=>?_) (λsp hsp=>?_) (λsp _=>by rw[hvars,Y0h,h3];rfl) rfl (Stp.below (Stp.ext (R0 W) hx)) (ok_one hr rfl (okWide_bool_mk hb _))⟩
 · rw[Y0h,h1,hr]
   exact trodAll_cons_mk (shut_bool hb _) trodAll_mk0
 · rw[Y0h,h2]
   exact Z5C hP hx (λt ht=>Z5Q (Y0k.1 hts t ht)) hA (λx hx=>hlt x (by simp[hx])) λx hx=>hsp x (by simp[hx])
end Go.Abs
end
section
namespace Go.Abs
open Go.RowKit
theorem FgL.mk{t0 tm:Tr}{H:Z00}{l:List (Nat×AV)}{H2:Z00}(m:List Nat)(h:Zel t0 tm=true)(h1:SlotsGe m tm l)(h2:HpGe H m m H2 0)(h3:Z1h (m.map (Z0M H))=true):FgL t0 tm H l H2:=by
 unfold FgL FgLK;rw[h];exact .inl ⟨m,rfl,h1,h2,h3⟩
theorem FgLK.mk{k:Nat}{t0 tm:Tr}{H:Z00}{l:List (Nat×AV)}{H2:Z00}(m:List Nat)(hk:ZgT k 0 m=true)(h:Zel t0 tm=true)(h1:SlotsGe m tm l)(h2:HpGe H m m H2 0)(h3:Z1h (m.map (Z0M H))=true):FgLK k t0 tm H l H2:=by
 unfold FgLK;rw[h];exact .inl ⟨m,hk,h1,h2,h3⟩
theorem FgL.mk0{t0 tm:Tr}{H:Z00}{l:List (Nat×AV)}(h:Zel t0 tm=true)(h1:SlotsGe [] tm l):FgL t0 tm H l []:=FgL.mk [] h h1 trivial rfl
theorem Znw{a b:Int}{K:Prop}(h:a<=b)(k:K):a<=b/\K:=⟨h,k⟩
def ZdZ(P Q:Prop):Prop:=Q->P
theorem s1T{t:Bool}{A B:Prop}(h:t=true):ZdZ ((t=true->A)/\(t=false->B)) A:=ZmF h
theorem s1F{t:Bool}{A B:Prop}(h:t=false):ZdZ ((t=true->A)/\(t=false->B)) B:=ZmG h
theorem s1I{α : Type}{o:Option α}{r : α}{K : α -> Prop}(h:o=some r):ZdZ (∃r,o=some r/\K r) (K r):=exI h
theorem s1R{u v:AV}{K:Prop}(h:u=v):ZdZ (u=v/\K) K:=eqR h
theorem s1W{α : Type}{x n : α}{K : α -> Prop}(h:x=n):ZdZ (∃n,x=n/\K n) (K n):=exW h
theorem s1J{i:Int}{n:Nat}{K:Nat->Prop}(j:Nat)(h1:i=(j:Int))(h2:j<n):ZdZ (∃j:Nat,(i=(j:Int)/\j<n)/\K j) (K j):=ixJ j h1 h2
theorem Zn3{i:Int}{n:Nat}{K:Nat->Prop}(j:Nat)(h1:i=(j:Int))(h2:j<=n):ZdZ (∃j:Nat,(i=(j:Int)/\j<=n)/\K j) (K j):=Zmw j h1 h2
theorem s1S{i:Int}{s:List UInt8}{K:Nat->UInt8->Prop}(j:Nat){b:UInt8}(h1:i=(j:Int))(h2:s[j]? = some b):ZdZ (∃j:Nat,i=(j:Int)/\∃b,s[j]? = some b/\K j b) (K j b):=ixS j h1 h2
theorem s1L{a b:Int}{K:Prop}(h:a<=b):ZdZ (a<=b/\K) K:=Znw h
theorem stp{P Q:Prop}(q:Q)(h:ZdZ P Q:=by
 first
 |(with_reducible refine s1T ?_;(focus (assumption)))|(with_reducible refine s1F ?_;(focus (assumption)))
 |(with_reducible refine s1T ?_;(focus (decide)))|(with_reducible refine s1F ?_;(focus (decide)))
 |(with_reducible refine s1T ?_;(focus ((first|assumption|decide|(simp;done)|(simp;omega));done)))
 |(with_reducible refine s1F ?_;(focus ((first|assumption|decide|(simp;done)|(simp;omega));done)))
 |with_reducible exact s1I rfl
 |with_reducible exact s1R rfl
 |(with_reducible refine s1W (Ze6 ?_);focus omega)|(with_reducible refine s1W (Zm5 ?_);focus omega)|(with_reducible refine s1W (Z7D ?_ ?_);(focus (omega));focus omega)
 |with_reducible exact s1W rfl
 |(with_reducible refine s1J _ rfl ?_;(focus ((first|decide|omega|(simp;done)|(simp;omega));done)))
 |(with_reducible refine Zn3 _ rfl ?_;(focus ((first|decide|omega|(simp;done)|(simp;omega));done)))
 |(refine s1J (Int.toNat _) ?_ ?_;(focus ((first|rfl|decide|omega|(simp;done));done));(focus ((first|decide|omega|(simp;done)|(simp;omega));done)))
 |(refine Zn3 (Int.toNat _) ?_ ?_;(focus ((first|rfl|decide|omega|(simp;done));done));(focus ((first|decide|omega|(simp;done)|(simp;omega));done)))
 |with_reducible exact s1S _ rfl (by assumption)
 |(with_reducible refine s1L ?_;(focus (first|decide|omega)))
 |(refine s1I (ZmJ rfl rfl (if_pos ?_));(focus ((first|decide|omega|(simp;done)|(simp;omega));done)))):P:=h q
end Go.Abs
end
section
namespace Go.Abs
open Go.RowKit
def lone(f b:Nat):Nat->Z00->Bool
 |_,[]=>true
 |i,o::H=>(Y00 i b || !Y00 o.fam f)&&lone f b (i+1) H
theorem lone_get{f b:Nat}:∀{H:Z00}{i j:Nat}{o:AObj},lone f b i H=true->H[j]? = some o->i+j=b\/o.fam≠f
 |[],i,j,o,h,e=>by simp at e
 |x::H,i,0,o,h,e=>by
  simp only[lone,Y01,Y0d,Y0i]at h
  simp at e;subst e
  rcases h.1 with h1|h1
  ·exact .inl (Y05 h1)
  ·exact .inr λe=>by rw[e]at h1;simp at h1
 |x::H,i,j+1,o,h,e=>by
  simp only[lone,Y01]at h
  have:=lone_get h.2 (by simpa using e)
  rcases this with h1|h1
  ·exact .inl (by omega)
  ·exact .inr h1
theorem ZiG{q:Nat->AObj->Bool}:∀(H:Z00)(i:Nat),(∀j o,H[j]? = some o->q (i+j) o=false)->kil q i H=H
 |[],i,h=>rfl
 |o::H,i,h=>by
  have h0:=h 0 o rfl
  simp only[Y0c]at h0
  simp only[kil,h0]
  rw[ZiG H (i+1) λj o' e=>by have:=h (j+1) o' (by simpa using e);rw[<- this];congr 1;omega]
  simp
def ZcU(P:Program)(t t2:TypeId):Option (TypeId×Nat×Nat) :=
 match P.underlying t with
 |some (.slice e)=>match P.info? e,Z1j P e with
  |some i,some u=>if apx P t2&&u.cells.length==i.size then some (e,i.size,i.bytes) else none
  |_,_=>none
 |_=>none
theorem Z58{P:Program}{t t2 e:TypeId}{z by_:Nat}(h:ZcU P t t2=some (e,z,by_)):P.underlying t=some (.slice e)/\∃i u,P.info? e=some i/\Z1j P e=some u/\(apx P t2&&u.cells.length==i.size)=true/\i.size=z/\i.bytes=by_:=by
 unfold ZcU at h
 split at h<;>try (cases h;done)
 rename_i e' he
 split at h<;>try (cases h;done)
 rename_i i u hi hu
 split at h<;>cases h
 rename_i hc
 exact⟨he,i,u,hi,hu,hc,rfl,rfl⟩
theorem ZfN{f e:Nat}{H:Z00}(h:∀o∈H,o.fam=f->o.sh+o.body.len<=e):Z8s f e H=H:=by
 refine ZiG H 0 λj o ho=>?_
 by_cases hf:o.fam=f
 · have:=h o (Y0a ho) hf
   simp[hf,this]
 · have:Y00 o.fam f=false:=Bool.eq_false_iff.2 λe=>hf (Y05 e)
   rw[this];rfl
theorem ZbD {P : Program} {t t2 e : TypeId} {z by_ : Nat} (hT : ZcU P t t2 = some (e, z, by_)) {H : Z00} {x : AV} {b f len cap n : Nat} {cs xs : List AV} (hx : Z1f H z x = some (n, xs)) (hH : H[b]? = some ⟨true, f, 0, .cells cs e⟩)
  (hk:Z8s f cs.length H=H) (hc:cs.length=len*z) (ho:xs.all one=true) (hn:n≠0) (hs:len+n<=1099511627776/\(len+n)*by_<=70368744177664) :
  Z0B P t t2 (.slice b 0 len cap z) x H=some (.slice H.length 0 (len+n) (len+n) z,H++[⟨true,f,0,.cells (cs++xs) e⟩]):=by
 obtain⟨h1,i,u,h2,h3,h4,rfl,rfl⟩:=Z58 hT
 have hcl:ZiS H b=cs.length:=by unfold ZiS;rw[hH]
 simp only[Z0B,h1,h2,h3]
 rw[if_pos h4]
 simp only[hx]
 rw[if_neg hn,if_pos trivial,if_neg (by intro h;rw[hcl]at h;omega),if_pos hs]
 simp only[hH]
 rw[if_pos ⟨by omega,trivial,ho⟩]
 simp only[List.drop_zero,Y0c,Y02,hk]
theorem Zik {P : Program} {t t2 e : TypeId} {z by_ : Nat} (hT : ZcU P t t2 = some (e, z, by_)) {H : Z00} {x : AV} {b off len cap : Nat} {xs : List AV} (hx : Z1f H z x = some (0, xs)) :
  Z0B P t t2 (.slice b off len cap z) x H=some (.slice b off len cap z,H):=by
 obtain⟨h1,i,u,h2,h3,h4,rfl,rfl⟩:=Z58 hT
 simp only[Z0B,h1,h2,h3]
 rw[if_pos h4]
 simp only[hx,if_true]
theorem Zc9:∀{cs:List AV}{n:Nat},cs.length=n->tk n cs=some cs
 |[],0,_=>rfl
 |c::cs,n+1,h=>by simp only[tk,Zc9 (cs:=cs) (n:=n) (by simpa using h)]
 |c::cs,0,h=>by simp at h
 |[],n+1,h=>by simp at h
theorem Zgy {P : Program} {t t2 e : TypeId} {z by_ : Nat} (hT : ZcU P t t2 = some (e, z, by_)) {H : Z00} {x : AV} {n : Nat} {xs : List AV} (hx : Z1f H z x = some (n, xs)) (hn : n ≠ 0) (hs : n <= 1099511627776 /\ n * by_ <= 70368744177664) :
  Z0B P t t2 .nslice x H=some (.slice H.length 0 n n z,Z0X H xs e):=by
 obtain⟨h1,i,u,h2,h3,h4,rfl,rfl⟩:=Z58 hT
 simp only[Z0B,h1,h2,h3]
 rw[if_pos h4]
 simp only[hx]
 rw[if_neg hn,if_pos hs]
def lit:AV->Bool
 | .bool _=>true
 | .int _ _=>true
 | .str _=>true
 |_=>false
theorem ZjY{H:Z00}{n:Nat}:∀{u:AV},lit u=true->frz H (n+1) u=some u
 | .bool _,_=>rfl
 | .int _ _,_=>rfl
 | .str _,_=>rfl
theorem Z9b{H:Z00}{n:Nat}:∀{cs:List AV},cs.all lit=true->Z3o (frz H (n+1)) cs=some cs
 |[],_=>rfl
 |c::cs,h=>by
  simp only[List.all_cons,Y01]at h
  simp only[Z3o,ZjY h.1,Z9b h.2]
theorem Zeh{α : Type}(f : α -> AV)(l:List α)(j:Nat)(h:j<l.length){off:Nat}(e:off=j):tk 1 ((l.map f).drop off)=some [f l[j]]:=by
 subst e
 rw[List.drop_eq_getElem_cons (by simpa using h)];simp[tk]
theorem Zj6{cs:List AV}{off:Nat}{c:AV}(h:cs[off]? = some c):tk 1 (cs.drop off)=some [c]:=by
 obtain⟨hl,rfl⟩:=Y04.1 h
 rw[List.drop_eq_getElem_cons hl];simp[tk]
theorem Zab{H:Z00}{n b f sh len cap z:Nat}{cs:List AV}{ty:TypeId}(hH:H[b]? = some ⟨true,f,sh,.cells cs ty⟩)(hc:cs.length=len*z)(hl:cs.all lit=true):frz H (n+2) (.slice b 0 len cap z)=some (.rs len z cs):=by
 cases len with
 |zero =>
  have:cs=[]:=List.eq_nil_of_length_eq_zero (by omega)
  subst this;rfl
 |succ m =>
  have h2:Z3o (frz H (n+1)) cs=some cs:=Z9b hl
  unfold frz
  simp only[hH,List.drop_zero,Zc9 hc]
  rw[h2]
section facts
open Classical
noncomputable def ZlP(l:List (Nat×List AV×AV)):Orc:=ZiB λf args=>(l.find? λp=>decide (p.1=f/\p.2.1=args)).map (·.2.2)
def Facts(P:Program)(gl:Z0n):List (Nat×List AV×AV)->Prop
 |[]=>True
 |(f,args,r)::l=>refsL args []=[]/\ValOK P gl f args r/\Facts P gl l
theorem Facts.mem{P:Program}{gl:Z0n}:∀{l:List (Nat×List AV×AV)}{p},Facts P gl l->p∈l->refsL p.2.1 []=[]/\ValOK P gl p.1 p.2.1 p.2.2
 |(f,args,r)::l,p,h,hm=>by
  rcases Y06.1 hm with rfl|hm
  ·exact⟨h.1,h.2.1⟩
  ·exact Facts.mem h.2.2 hm
theorem Zdj{P:Program}{gl:Z0n}{l:List (Nat×List AV×AV)}(h:Facts P gl l):OrcSound P gl (ZlP l):=Z5j λf args r e=>by
 simp only[Y0b]at e
 obtain⟨p,e1,rfl⟩:=e
 have hm:=List.mem_of_find?_eq_some e1
 have hp:=List.find?_some e1
 simp only[decide_eq_true_eq]at hp
 obtain⟨rfl,rfl⟩:=hp
 exact h.mem hm
theorem ZmM{P:Program}{l:List (Nat×List AV×AV)}{H:Z00}{g:Nat}{args:List AV}{r:AV}(h1:Z0k P g=true)(h2:l.find? (λp=>decide (p.1=g/\p.2.1=args))=some (g,args,r)):Z0e P (ZlP l) H g args=some (r,H):=by
 simp only[Z0e,h1,if_true,ZlP,ZiB,h2,Option.map_some]
theorem ZdD{l:List (Nat×List AV×AV)}{g:Nat}{args:List AV}{r:AV}:((g,args,r)::l).find? (λp=>decide (p.1=g/\p.2.1=args))=some (g,args,r):=by simp
end facts
end Go.Abs
end
section
namespace Go.Abs
open Go.RowKit
def Z1N(P:Program)(gl:Z0n)(f:Nat)(args:List AV)(H:Z00)(r:AV)(H':Z00):Prop :=
 ∀(sn:Z0f)(ι : Z0c)(W:World)(cargs:List Value),GlOK gl sn->R sn ι H W->LR sn ι args cargs ->
  CallsY P f cargs.toArray W λe W'=>∃v sn' ι',e = .returned v/\VR sn' ι' r v/\Stp sn ι H W sn' ι' H' W'
def ZiN(k:Nat):Z00->Z00->Bool
 |[],[]=>true
 |o::H,o'::H'=>Y00 o'.fam o.fam&&(Y00 o'.sh o.sh&&((!o'.alive || o.alive)&&(Z0G k (Z2M o'.body [])&&ZiN k H H')))
 |_,_=>false
theorem Z9k{k:Nat}:∀{H H':Z00},ZiN k H H'=true->H'.length=H.length/\∀(b:Nat)(o o':AObj),H[b]? = some o->H'[b]? = some o'->o'.fam=o.fam/\o'.sh=o.sh/\(o'.alive=true->o.alive=true)/\Z0G k (Z2M o'.body [])=true
 |[],[],h=>⟨rfl,λb o o' e=>by simp at e⟩
 |x::H,y::H',h=>by
  simp only[ZiN,Y01]at h
  obtain⟨h1,h2,h3,h4,h5⟩:=h
  obtain⟨k1,k2⟩:=Z9k h5
  refine⟨by simp[k1],λb o o' e e'=>?_⟩
  cases b with
  |zero =>
   simp at e e';subst e;subst e'
   exact⟨Y05 h1,Y05 h2,λha=>by simpa[ha]using h3,h4⟩
  |succ b=>exact k2 b o o' (by simpa using e) (by simpa using e')
 |[],_::_,h=>by simp[ZiN]at h
 |_::_,[],h=>by simp[ZiN]at h
theorem Z19{k:Nat}:∀{l:List Nat},Z0G k l=true->∀b∈l,b<k
 |[],h,b,hb=>by cases hb
 |n::l,h,b,hb=>by
  simp only[Z0G,Y01]at h
  rcases Y06.1 hb with rfl|hb
  ·exact Z5Q h.1
  ·exact Z19 h.2 b hb
def Zlu(P:Program)(l:List ResultVar)(k:Nat)(H0:Z00)(r:AV)(H1:Z00)(tm:Tr)(H:Z00):Prop :=
 onO (Z2i P tm H l) λvs=>Z3y vs=r/\H.take k=H1/\(Z0G k (Z0W r [])&&ZiN k H0 H1)=true
theorem Z9T{sn:Z0f}{ι : Z0c}{us:List AV}{vs:List Value}{fn:Func}(h4:LR sn ι us vs):VR sn ι (Z3y us) (if h:vs.toArray.size=1 then vs.toArray[0] else .tuple vs.toArray):=by
 match us,h4 with
 |[],h4=>simp only[LR]at h4;subst h4;simp[Z3y,VR,LR]
 |[u],h4 =>
  simp only[LR]at h4
  obtain⟨d,ds,rfl,hd,rfl⟩:=h4
  simpa[Z3y]using hd
 |u::u'::l,h4 =>
  have hl:=h4.length
  simp only[Y0e]at hl
  have:vs.toArray.size≠1:=by simp[hl]
  rw[dif_neg this]
  simp only[Z3y,VR]
  exact⟨_,rfl,h4⟩
theorem Zda {sn sn1 : Z0f} {ι ι1 : Z0c} {H0 H H1 : Z00} {W W1 : World} {k : Nat} (hk : H0.length = k) (hR : R sn ι H0 W) (s1 : Stq k sn ι H0 W sn1 ι1 H W1) (h3 : H.take k = H1) (h5 : ZiN k H0 H1 = true) :
  ∃ι',Stp sn ι H0 W sn1 ι' H1 W1/\∀u v,Z0G k (Z0W u [])=true->VR sn1 ι1 u v->VR sn1 ι' u v:=by
 obtain⟨e1,e2⟩:=Z9k h5
 have hpl:∀b,b<k->∃p,ι b=some p /\ ι1 b=some p:=λb hb=>by
  obtain⟨p,hp⟩:=(hR.dom b).1 (by omega)
  exact⟨p,hp,s1.keep b p hb hp⟩
 let ι':Z0c:=λb=>if b<k then ι1 b else none
 have hi:∀b,b<k->∀p,ι1 b=some p -> ι' b=some p:=λb hb p hp=>by show (if b<k then ι1 b else none)=some p;rw[if_pos hb];exact hp
 have hi2:∀b p,ι' b=some p->b<k /\ ι1 b=some p:=λb p hp=>by
  have hp:(if b<k then ι1 b else none)=some p:=hp
  split at hp
  ·exact⟨by assumption,hp⟩
  ·cases hp
 have hH:∀(b:Nat)(o:AObj),H1[b]? = some o->b<k/\H[b]? = some o:=λb o hb=>by
  have hb':b<H1.length:=(Y04.1 hb).1
  rw[e1,hk]at hb'
  rw[<- h3,List.getElem?_take_of_lt hb']at hb
  exact⟨hb',hb⟩
 have hR1:R sn1 ι' H1 W1:=by
  refine⟨λb=>⟨λhb=>?_,λ⟨p,hp⟩=>?_⟩,λb p hp=>s1.rel.blk b p (hi2 b p hp).2,λb o p hb hal hp=>?_,λb b' o o' p p' hb hb' ha ha' hp hp' e=>?_,λad v hv=>?_,λb o p hb hp e=>?_⟩
  · rw[e1,hk]at hb
    obtain⟨p,_,hp⟩:=hpl b hb
    exact⟨p,hi b hb p hp⟩
  ·rw[e1,hk];exact (hi2 b p hp).1
  · obtain⟨hb1,hb2⟩:=hH b o hb
    obtain⟨_,hp⟩:=hi2 b p hp
    have h0:b<H0.length:=by omega
    have h6:=(e2 b _ o (Y07 h0) hb).2.2.2
    exact Z4z o.body p (λx hx q hq=>hi x (Z19 h6 x hx) q hq) (s1.rel.obj b o p hb2 hal hp)
  · obtain⟨_,hb2⟩:=hH b o hb
    obtain⟨_,hb2'⟩:=hH b' o' hb'
    exact s1.rel.sep b b' o o' p p' hb2 hb2' ha ha' (hi2 _ _ hp).2 (hi2 _ _ hp').2 e
  · obtain⟨g1,g2,g3⟩:=s1.rel.snap ad v hv
    refine⟨g1,g2,λb o p hb hal hp=>?_⟩
    obtain⟨_,hb2⟩:=hH b o hb
    exact g3 b o p hb2 hal (hi2 _ _ hp).2
  · obtain⟨_,hb2⟩:=hH b o hb
    exact s1.rel.shz b o p hb2 (hi2 _ _ hp).2 e
 refine⟨ι',⟨hR1,⟨s1.le,λb p hb=>?_⟩,λb p hp=>.inl ?_,s1.frame,s1.size,s1.os,s1.tape,s1.output,s1.sfresh,λb o hb=>?_⟩,λu v hu hv=>?_⟩
 · have hbk:b<k:=by have:=(hR.dom b).2 ⟨p,hb⟩;omega
   exact hi b hbk p (s1.keep b p hbk hb)
 · obtain⟨hbk,hp1⟩:=hi2 b p hp
   obtain⟨q,hq,hq1⟩:=hpl b hbk
   rw[hq1]at hp1;cases hp1;exact hq
 · have hb0:=(Y04.1 hb).1
   have hb1:b<H1.length:=by omega
   obtain⟨g1,g2,g3,_⟩:=e2 b o _ hb (Y07 hb1)
   exact⟨_,Y07 hb1,g1,g2,g3⟩
 ·exact Z1m (ι:=ι1) u [] _ (λx hx q hq=>hi x (Z19 hu x hx) q hq) hv
theorem fn_memR {rf : AV -> Array Tmp -> Code -> Code -> KN -> KX -> KN -> Tr -> Z00 -> Prop} {P : Program} {gl : Z0n} {orc : Orc} {k : Nat} (hrf : Zm4 P gl none k rf) (hm : P.follows .mixedOrders = true) (hn : NoNum P) (hO : OrcSound P gl orc) {f : Nat} {fn : Func} {c : Code} {args : List AV} {H0 H1 : Z00} {r : AV} (hk : H0.length = k)
  (hf:P.funcs[f]? = some fn) (hc:fn.body=some c) {cw:CW} (hcw:ZaV P orc cw)
  (h:Z0s (tmk (Z7E args fn.ntmps args.length) (Z7C 20 fn.ntmps)) λtm=>Z1Q P gl orc cw ⟨Z5n k,rf⟩ c (Zlu P fn.results.toList k H0 r H1) (λ_ _ _=>False) (Zlu P fn.results.toList k H0 r H1) tm H0):Z1N P gl f args H0 r H1:=by
 intro sn ι W cargs hg hR ha
 rw[Z09]at h
 refine .inl (Z3P hf hc (Z1t (rd:=none) hrf hm hn hO hcw c h) hg hR ha (λ_ _ _ h=>h) λx tm1 H a1 W1 sn1 ι1 hx s1 t1=>?_)
 have key:Zlu P fn.results.toList k H0 r H1 tm1 H->∃v,(results fn a1.tmps).run P W1 = .ok v W1/\∃sn' ι',VR sn' ι' r v/\Stp sn ι H0 W sn' ι' H1 W1:=by
  intro h
  obtain⟨us,h1,h2,h3,h4⟩:=Z01 h
  simp only[Y01]at h4
  obtain⟨h4,h5⟩:=h4
  obtain⟨vs,k1,k2⟩:=Z1l s1.rel t1 _ _ h1
  obtain⟨ι',g1,g2⟩:=Zda hk hR s1 h3 h5
  refine⟨_,Z1U k2,sn1,ι',?_,g1⟩
  rw[<- h2]at h4⊢
  exact g2 _ _ h4 (Z9T (fn:=fn) k1)
 cases x with
 |normal =>
  obtain⟨v,k1,sn',ι',k2,k3⟩:=key hx
  exact⟨v,k1,v,sn',ι',rfl,k2,k3⟩
 |exit id=>exact hx.elim
 |ret =>
  obtain⟨v,k1,sn',ι',k2,k3⟩:=key hx
  exact⟨v,k1,v,sn',ι',rfl,k2,k3⟩
theorem Zls {P : Program} {gl : Z0n} {orc : Orc} (hm : P.follows .mixedOrders = true) (hn : NoNum P) (hO : OrcSound P gl orc) {f k : Nat} {fn : Func} {c : Code} {args : List AV} {H0 H1 : Z00} {r : AV} (hk : H0.length = k)
  (hf:P.funcs[f]? = some fn) (hc:fn.body=some c) {cw:CW} (hcw:ZaV P orc cw)
  (h:Z0s (tmk (Z7E args fn.ntmps args.length) (Z7C 20 fn.ntmps)) λtm=>Z1Q P gl orc cw (ZbU k) c (Zlu P fn.results.toList k H0 r H1) (λ_ _ _=>False) (Zlu P fn.results.toList k H0 r H1) tm H0):Z1N P gl f args H0 r H1 :=
 fn_memR (λ_ _ _ _ _ _ _ _ _ _ _ h=>h.elim) hm hn hO hk hf hc hcw h
section orcI
open Classical
noncomputable def orcI{I:Type}(G:I->Prop)(fF:I->Nat)(fA:I->List AV)(fH:I->Z00)(fR:I->AV)(fO:I->Z00):Orc:=λf args H =>
 if h:∃i,G i/\fF i=f/\fA i=args/\fH i=H then some (fR (Classical.choose h),fO (Classical.choose h)) else none
theorem Zdi{P:Program}{gl:Z0n}{I:Type}{G:I->Prop}{fF:I->Nat}{fA:I->List AV}{fH:I->Z00}{fR:I->AV}{fO:I->Z00}(h:∀i,G i->Z1N P gl (fF i) (fA i) (fH i) (fR i) (fO i)):OrcSound P gl (orcI G fF fA fH fR fO):=by
 intro f args H r H' e
 unfold orcI at e
 split at e
 · rename_i hx
   simp only[Option.some.injEq,Prod.mk.injEq]at e
   obtain⟨rfl,rfl⟩:=e
   obtain⟨g1,e1,e2,e3⟩:=Classical.choose_spec hx
   have:=h _ g1
   rw[e1,e2,e3]at this;exact this
 ·cases e
theorem ZmL {P : Program} {I : Type} {G : I -> Prop} {fF : I -> Nat} {fA : I -> List AV} {fH : I -> Z00} {fR : I -> AV} {fO : I -> Z00} (hinj : ∀ i j, G i -> G j -> fF i = fF j -> fA i = fA j -> fH i = fH j -> fR i = fR j /\ fO i = fO j) {g : Nat} {args : List AV} {H : Z00} (hb : Z0k P g = true) (i : I) (hi : G i) (h1 : fF i = g) (h2 : fA i = args) (h3 : fH i = H) :
  Z0e P (orcI G fF fA fH fR fO) H g args=some (fR i,fO i):=by
 have hx:∃i,G i/\fF i=g/\fA i=args/\fH i=H:=⟨i,hi,h1,h2,h3⟩
 unfold Z0e
 rw[if_pos hb]
 unfold orcI
 rw[dif_pos hx]
 obtain⟨g1,g2,g3,g4⟩:=Classical.choose_spec hx
 obtain⟨e1,e2⟩:=hinj _ i g1 hi (g2.trans h1.symm) (g3.trans h2.symm) (g4.trans h3.symm)
 rw[e1,e2]
end orcI
end Go.Abs
end

/-
  Texts of this proof, one behind the other (part 1).
-/
import Derived.WalkKit
import Derived.Lib.Strings
import Derived.ChangeKeysEq
set_option linter.unusedVariables false
set_option linter.unusedSimpArgs false
set_option maxRecDepth 100000
set_option maxHeartbeats 4000000
open Go.Sem renaming run_bind → Y00,run_pure → Y02
open Go.Result renaming andThen_ok → Y01
open Nat renaming le_refl → Y03,add_mul → Y05,beq → Y06,add_assoc → Y0d,mul_le_mul_right → Y0f,zero_add → Y0g,sub_zero → Y0k,add_zero → Y0n,succ_ne_zero → Y0o
open List renaming getElem?_eq_some_iff → Y04,getElem?_append_left → Y07,map_cons → Y09,getElem?_take → Y0a,getElem?_set → Y0e,getElem?_append_right → Y0h,getElem?_drop → Y0i,append_assoc → Y0j,getElem?_eq_getElem → Y0m,eq_nil_of_length_eq_zero → Y0p,drop_drop → Y0q,map_take → Y0r,length_append → Y0s,length_take → Y0t,getElem?_toArray → Y0v,drop_eq_nil_of_le → Y0w
open Array renaming getElem?_toList → Y08,toList_map → Y0c,getElem?_setIfInBounds → Y0l
open Bool renaming false_eq_true → Y0b,and_eq_true → Y0u
section
namespace Go.Abs
structure Place where
 blk:Nat
 sh:Nat
 n:Nat
abbrev Z0i:=Nat->Option Place
abbrev Z0l:=Addr->Option Value
def noI:Z0i:=λ_=>none
inductive AV where
 |bool (b:Bool)
 |int (k:IntKind) (n:Int)
 |str (s:List UInt8)
 |nptr
 |ptr (b off:Nat)
 |rp (cs:List AV)
 |nslice
 |slice (b off len cap z:Nat)
 |rs (n z:Nat) (cs:List AV)
 |nmap
 |map (b:Nat)
 |func (fn:Fn) (first captured:List AV)
 |nfunc
 |iface (t:TypeId) (v:AV)
 |niface
 |agg (cs:List AV)
 |tuple (vs:List AV)
 deriving Inhabited
mutual
def VR(sn:Z0l)(ι : Z0i):AV->Value->Prop
 | .bool b,v=>v = .bool b
 | .int k n,v=>v = .int k n
 | .str s,v=>∃ba:ByteArray,v = .string ba/\ba.data.toList=s
 | .nptr,v=>v = .pointer none
 | .ptr b off,v=>∃p,ι b=some p/\v = .pointer (some ⟨p.blk,p.sh+off,none⟩)
 | .rp cs,v=>∃b o,v = .pointer (some ⟨b,o,none⟩)/\MR sn cs b o
 | .nslice,v=>v = .slice none 0 0
 | .slice b off len cap z,v=>∃p a cap',ι b=some p/\v = .slice (some a) len cap'/\len<=cap/\cap<=cap'/\(cap'≠0->a=⟨p.blk,p.sh+off,none⟩/\p.sh+off+cap'*z<=p.n)
 | .rs n z cs,v=>(n=0/\cs=[]/\v = .slice none 0 0)\/∃ (a:Addr) (cap:Nat),v = .slice (some a) n cap/\n<=cap/\cs.length=n*z/\MR sn cs a.block a.off/\(n≠0->a.spot=none)
 | .nmap,v=>v = .map none
 | .map b,v=>∃p,ι b=some p/\v = .map (some p.blk)
 | .func fn first captured,v=>∃f c,v = .func fn f c/\LR sn ι first f.toList/\LR sn ι captured c.toList
 | .nfunc,v=>v = .nilFunc
 | .iface t u,v=>∃x,v = .iface t x/\VR sn ι u x
 | .niface,v=>v = .nilIface
 | .agg cs,v=>∃d,v = .agg d/\LR sn ι cs d.toList
 | .tuple cs,v=>∃d,v = .tuple d/\LR sn ι cs d.toList
def LR(sn:Z0l)(ι : Z0i):List AV->List Value->Prop
 |[],l=>l=[]
 |c::cs,l=>∃d ds,l=d::ds/\VR sn ι c d/\LR sn ι cs ds
def MR(sn:Z0l):List AV->Nat->Nat->Prop
 |[],_,_=>True
 |c::cs,b,o=>(∃v,sn ⟨b,o,none⟩=some v/\VR sn noI c v)/\MR sn cs b (o+1)
end
mutual
def ren(f:Nat->Nat):AV->AV
 | .ptr b off=>.ptr (f b) off
 | .slice b off len cap z=>.slice (f b) off len cap z
 | .map b=>.map (f b)
 | .func fn first captured=>.func fn (renL f first) (renL f captured)
 | .iface t v=>.iface t (ren f v)
 | .agg cs=>.agg (renL f cs)
 | .tuple cs=>.tuple (renL f cs)
 | .bool b=>.bool b
 | .int k n=>.int k n
 | .str s=>.str s
 | .nptr=>.nptr
 | .rp cs=>.rp cs
 | .nslice=>.nslice
 | .rs n z cs=>.rs n z cs
 | .nmap=>.nmap
 | .nfunc=>.nfunc
 | .niface=>.niface
def renL(f:Nat->Nat):List AV->List AV
 |[]=>[]
 |c::cs=>ren f c::renL f cs
end
mutual
theorem Z6j{sn:Z0l}{ι : Z0i}{f:Nat->Nat}:∀(u:AV)(v:Value),VR sn ι (ren f u) v ↔ VR sn (λb=>ι (f b)) u v
 | .ptr b off,v=>by simp[ren,VR]
 | .slice b off len cap z,v=>by simp[ren,VR]
 | .map b,v=>by simp[ren,VR]
 | .func fn first captured,v=>by simp[ren,VR,LR_ren first,LR_ren captured]
 | .iface t u,v=>by simp[ren,VR,Z6j u]
 | .agg cs,v=>by simp[ren,VR,LR_ren cs]
 | .tuple cs,v=>by simp[ren,VR,LR_ren cs]
 | .bool b,v=>by simp[ren,VR]
 | .int k n,v=>by simp[ren,VR]
 | .str s,v=>by simp[ren,VR]
 | .nptr,v=>by simp[ren,VR]
 | .rp cs,v=>by simp[ren,VR]
 | .nslice,v=>by simp[ren,VR]
 | .rs n z cs,v=>by simp[ren,VR]
 | .nmap,v=>by simp[ren,VR]
 | .nfunc,v=>by simp[ren,VR]
 | .niface,v=>by simp[ren,VR]
theorem LR_ren{sn:Z0l}{ι : Z0i}{f:Nat->Nat}:∀(us:List AV)(vs:List Value),LR sn ι (renL f us) vs ↔ LR sn (λb=>ι (f b)) us vs
 |[],vs=>by simp[renL,LR]
 |u::us,vs=>by simp[renL,LR,Z6j u,LR_ren us]
end
structure Le (sn sn':Z0l) (ι ι':Z0i):Prop where
 sn:∀a v,sn a=some v->sn' a=some v
 ι : ∀b p,ι b=some p -> ι' b=some p
theorem Le.refl(sn:Z0l)(ι : Z0i):Le sn sn ι ι:=⟨λ_ _ h=>h,λ_ _ h=>h⟩
theorem Le.trans{sn sn' sn'':Z0l}{ι ι' ι'':Z0i}(h:Le sn sn' ι ι')(h':Le sn' sn'' ι' ι''):Le sn sn'' ι ι'' :=
 ⟨λa v e=>h'.sn a v (h.sn a v e),λb p e=>h'.ι b p (h.ι b p e)⟩
theorem Le.none{sn sn':Z0l}{ι ι':Z0i}(h:Le sn sn' ι ι'):Le sn sn' noI noI:=⟨h.sn,λ_ _ h=>h⟩
mutual
theorem Z0R{sn sn':Z0l}{ι ι':Z0i}(h:Le sn sn' ι ι'):∀(u:AV)(v:Value),VR sn ι u v->VR sn' ι' u v
 | .ptr b off,v,e=>by simp only[VR]at *;obtain⟨p,h1,h2⟩:=e;exact⟨p,h.ι _ _ h1,h2⟩
 | .slice b off len cap z,v,e=>by simp only[VR]at *;obtain⟨p,a,c,h1,h2⟩:=e;exact⟨p,a,c,h.ι _ _ h1,h2⟩
 | .map b,v,e=>by simp only[VR]at *;obtain⟨p,h1,h2⟩:=e;exact⟨p,h.ι _ _ h1,h2⟩
 | .func fn first captured,v,e=>by
  simp only[VR]at *;obtain⟨f,c,h1,h2,h3⟩:=e;exact⟨f,c,h1,LR_mono h first _ h2,LR_mono h captured _ h3⟩
 | .iface t u,v,e=>by simp only[VR]at *;obtain⟨x,h1,h2⟩:=e;exact⟨x,h1,Z0R h u _ h2⟩
 | .agg cs,v,e=>by simp only[VR]at *;obtain⟨x,h1,h2⟩:=e;exact⟨x,h1,LR_mono h cs _ h2⟩
 | .tuple cs,v,e=>by simp only[VR]at *;obtain⟨x,h1,h2⟩:=e;exact⟨x,h1,LR_mono h cs _ h2⟩
 | .rp cs,v,e=>by simp only[VR]at *;obtain⟨b,o,h1,h2⟩:=e;exact⟨b,o,h1,MR_mono h cs _ _ h2⟩
 | .rs n z cs,v,e=>by
  simp only[VR]at *
  rcases e with e|⟨a,c,h1,h2,h3,h4,h5⟩
  ·exact .inl e
  ·exact .inr ⟨a,c,h1,h2,h3,MR_mono h cs _ _ h4,h5⟩
 | .bool b,v,e=>by simpa[VR]using e
 | .int k n,v,e=>by simpa[VR]using e
 | .str s,v,e=>by simpa[VR]using e
 | .nptr,v,e=>by simpa[VR]using e
 | .nslice,v,e=>by simpa[VR]using e
 | .nmap,v,e=>by simpa[VR]using e
 | .nfunc,v,e=>by simpa[VR]using e
 | .niface,v,e=>by simpa[VR]using e
theorem LR_mono{sn sn':Z0l}{ι ι':Z0i}(h:Le sn sn' ι ι'):∀(us:List AV)(vs:List Value),LR sn ι us vs->LR sn' ι' us vs
 |[],vs,e=>by simpa[LR]using e
 |u::us,vs,e=>by
  simp only[LR]at *;obtain⟨d,ds,h1,h2,h3⟩:=e;exact⟨d,ds,h1,Z0R h u _ h2,LR_mono h us _ h3⟩
theorem MR_mono{sn sn':Z0l}{ι ι':Z0i}(h:Le sn sn' ι ι'):∀(us:List AV)(b o:Nat),MR sn us b o->MR sn' us b o
 |[],b,o,e=>by simp[MR]
 |u::us,b,o,e=>by
  simp only[MR]at *;obtain⟨⟨v,h1,h2⟩,h3⟩:=e;exact⟨⟨v,h.sn _ _ h1,Z0R h.none u _ h2⟩,MR_mono h us _ _ h3⟩
end
theorem LR.length{sn:Z0l}{ι : Z0i}:∀{us:List AV}{vs:List Value},LR sn ι us vs->vs.length=us.length
 |[],vs,e=>by simp[LR]at e;simp[e]
 |u::us,vs,e=>by simp only[LR]at e;obtain⟨d,ds,rfl,_,h⟩:=e;simp[LR.length h]
theorem Z6k{sn:Z0l}{ι : Z0i}:∀{us:List AV}{vs:List Value},LR sn ι us vs ↔ vs.length=us.length/\∀(i:Nat)(u:AV),us[i]? = some u->∃v,vs[i]? = some v/\VR sn ι u v
 |[],vs=>by simp[LR]
 |u::us,vs=>by
  simp only[LR]
  constructor
  · rintro⟨d,ds,rfl,h,h'⟩
    obtain⟨h1,h2⟩:=Z6k.1 h'
    refine⟨by simp[h1],λi x hx=>?_⟩
    cases i with
    |zero=>simp at hx;subst hx;exact⟨d,rfl,h⟩
    |succ i=>simp at hx;simpa using h2 i x hx
  · rintro⟨h1,h2⟩
    match vs,h1 with
    |d::ds,h1 =>
     refine⟨d,ds,rfl,?_,Z6k.2 ⟨by simpa using h1,λi x hx=>?_⟩⟩
     ·obtain⟨v,h3,h4⟩:=h2 0 u rfl;simp at h3;subst h3;exact h4
     ·simpa using h2 (i+1) x (by simpa using hx)
theorem LR.get{sn:Z0l}{ι : Z0i}{us:List AV}{vs:List Value}(h:LR sn ι us vs){i:Nat}{u:AV}(hu:us[i]? = some u):∃v,vs[i]? = some v/\VR sn ι u v :=
 (Z6k.1 h).2 i u hu
theorem LR.append{sn:Z0l}{ι : Z0i}:∀{us us':List AV}{vs vs':List Value},LR sn ι us vs->LR sn ι us' vs'->LR sn ι (us++us') (vs++vs')
 |[],_,vs,_,h,h'=>by simp[LR]at h;subst h;simpa using h'
 |u::us,us',vs,vs',h,h'=>by
  simp only[LR]at h;obtain⟨d,ds,rfl,h1,h2⟩:=h
  simp only[List.cons_append,LR];exact⟨d,ds++vs',rfl,h1,LR.append h2 h'⟩
theorem LR.take{sn:Z0l}{ι : Z0i}{us:List AV}{vs:List Value}(h:LR sn ι us vs)(n:Nat):LR sn ι (us.take n) (vs.take n):=by
 obtain⟨h1,h2⟩:=Z6k.1 h
 refine Z6k.2 ⟨by simp[h1],λj x hx=>?_⟩
 rw[Y0a]at hx⊢
 split at hx
 ·rw[if_pos (by assumption)];exact h2 j x hx
 ·simp at hx
theorem LR.drop{sn:Z0l}{ι : Z0i}{us:List AV}{vs:List Value}(h:LR sn ι us vs)(n:Nat):LR sn ι (us.drop n) (vs.drop n):=by
 obtain⟨h1,h2⟩:=Z6k.1 h
 refine Z6k.2 ⟨by simp[h1],λj x hx=>?_⟩
 rw[Y0i]at hx⊢
 exact h2 _ x hx
theorem MR.get{sn:Z0l}:∀{us:List AV}{b o:Nat}(_:MR sn us b o){i:Nat}{u:AV}(_:us[i]? = some u),∃v,sn ⟨b,o+i,none⟩=some v/\VR sn noI u v
 |[],b,o,h,i,u,hu=>by simp at hu
 |c::cs,b,o,h,i,u,hu=>by
  simp only[MR]at h
  cases i with
  |zero=>simp at hu;subst hu;simpa using h.1
  |succ i =>
   simp at hu
   obtain⟨v,h1,h2⟩:=MR.get h.2 hu
   exact⟨v,by rw[<- h1];congr 2;omega,h2⟩
theorem MR.drop{sn:Z0l}:∀{us:List AV}{b o:Nat}(_:MR sn us b o)(n:Nat),MR sn (us.drop n) b (o+n)
 |us,b,o,h,0=>by simpa using h
 |[],b,o,h,n+1=>by simp[MR]
 |c::cs,b,o,h,n+1=>by
  simp only[MR]at h
  have:=MR.drop h.2 n
  rw[List.drop_succ_cons]
  rwa [show o+(n+1)=o+1+n from by omega]
theorem MR.take{sn:Z0l}:∀{us:List AV}{b o:Nat}(_:MR sn us b o)(n:Nat),MR sn (us.take n) b o
 |us,b,o,h,0=>by simp[MR]
 |[],b,o,h,n+1=>by simp[MR]
 |c::cs,b,o,h,n+1=>by
  simp only[MR]at h
  rw[List.take_succ_cons]
  simp only[MR]
  exact⟨h.1,MR.take h.2 n⟩
theorem Zbc{sn:Z0l}{ι : Z0i}{u:AV}{v:Value}(h:VR sn noI u v):VR sn ι u v:=Z0R ⟨λ_ _ h=>h,λ_ _ h=>by simp[noI]at h⟩ _ _ h
end Go.Abs
end
section
namespace Go.Abs
open Go.RowKit
structure ALoop where
 l:Nat
 st:LoopState
 pend:Option Code
 n:Nat
 ps:Array Tmp
 asg:Code
 bd:Code
inductive ABody where
 |cells (cs:List AV) (ty:TypeId)
 |map (es:List (AV×AV×Nat)) (clock:Nat)
 |siter (s:List UInt8) (pos:Nat)
 |loop (g:ALoop) (ts:List (Nat×AV))
 deriving Inhabited
structure LoopIs (g:ALoop) (r:Loop):Prop where
 st:r.state=g.st
 pend:r.pending=g.pend
 n:g.n<=r.tmps.size
 ps:r.params=g.ps
 asg:r.assign=g.asg
 bd:r.body=g.bd
def TSR(sn:Z0l)(ι : Z0i):List (Nat×AV)->Array Value->Prop
 |[],_=>True
 |x::l,a=>(∃v,a[x.1]? = some v/\VR sn ι x.2 v)/\TSR sn ι l a
theorem ZdQ{sn sn':Z0l}{ι ι':Z0i}(h:Le sn sn' ι ι'){a:Array Value}:∀{ts:List (Nat×AV)},TSR sn ι ts a->TSR sn' ι' ts a
 |[],_=>trivial
 |x::l,⟨⟨v,h1,h2⟩,h3⟩=>⟨⟨v,h1,Z0R h _ _ h2⟩,ZdQ h h3⟩
structure AObj where
 alive:Bool
 fam:Nat
 sh:Nat
 body:ABody
 deriving Inhabited
abbrev Z00:=List AObj
def AObj.dead(o:AObj):AObj:={ o with alive:=false,body:=.cells [] 0 }
def ER(sn:Z0l)(ι : Z0i):List (AV×AV×Nat)->List MapEntry->Prop
 |[],l=>l=[]
 |(k,v,n)::es,l=>∃e l',l=e::l'/\VR sn ι k e.key/\VR sn ι v e.val/\e.born=n/\ER sn ι es l'
theorem Zhp{sn sn':Z0l}{ι ι':Z0i}(h:Le sn sn' ι ι'):∀{es:List (AV×AV×Nat)}{l:List MapEntry},ER sn ι es l->ER sn' ι' es l
 |[],l,e=>e
 |(k,v,n)::es,l,e=>by
  simp only[ER]at *;obtain⟨x,l',h1,h2,h3,h4,h5⟩:=e
  exact⟨x,l',h1,Z0R h _ _ h2,Z0R h _ _ h3,h4,Zhp h h5⟩
def OR(sn:Z0l)(ι : Z0i)(W:World):ABody->Place->Prop
 | .cells cs ty,p=>∃arr,W.heap[p.blk]? = some (.cells arr ty (0,0))/\arr.size=p.n/\p.sh+cs.length<=p.n /\
  ∀(i:Nat)(c:AV),cs[i]? = some c->∃v,arr[p.sh+i]? = some v/\VR sn ι c v
 | .map es clock,p=>∃mes,W.heap[p.blk]? = some (.map mes clock)/\ER sn ι es mes.toList
 | .siter s pos,p=>∃ba:ByteArray,W.heap[p.blk]? = some (.stringIter ba pos)/\ba.data.toList=s
 | .loop g ts,p=>∃r:Loop,W.heap[p.blk]? = some (.loop r)/\p.blk=g.l/\LoopIs g r/\TSR sn ι ts r.tmps
theorem Z0Q{sn sn':Z0l}{ι ι':Z0i}(h:Le sn sn' ι ι'){W W':World}:∀{o:ABody}{p:Place},W'.heap[p.blk]? = W.heap[p.blk]?->OR sn ι W o p->OR sn' ι' W' o p
 | .cells cs ty,p,e,x=>by
  simp only[OR]at *;obtain⟨arr,h1,h2,h3,h4⟩:=x
  exact⟨arr,e.trans h1,h2,h3,λi c hc=>let ⟨v,a,b⟩:=h4 i c hc;⟨v,a,Z0R h _ _ b⟩⟩
 | .map es clock,p,e,x=>by
  simp only[OR]at *;obtain⟨m,h1,h2⟩:=x
  exact⟨m,e.trans h1,Zhp h h2⟩
 | .siter s pos,p,e,x=>by
  simp only[OR]at *;obtain⟨m,h1,h2⟩:=x
  exact⟨m,e.trans h1,h2⟩
 | .loop g ts,p,e,x=>by
  simp only[OR]at *;obtain⟨m,h1,h2,h3,h4⟩:=x
  exact⟨m,e.trans h1,h2,h3,ZdQ h h4⟩
structure R (sn:Z0l) (ι : Z0i) (H:Z00) (W:World):Prop where
 dom:∀b,b<H.length ↔ ∃p,ι b=some p
 blk:∀b p,ι b=some p->p.blk<W.heap.size
 obj:∀(b:Nat)(o:AObj) p,H[b]? = some o->o.alive=true -> ι b=some p->OR sn ι W o.body p
 sep:∀(b b':Nat)(o o':AObj) p p',H[b]? = some o->H[b']? = some o'->o.alive=true->o'.alive=true -> ι b=some p -> ι b'=some p'->p.blk=p'.blk->o.fam=o'.fam/\p.sh+o'.sh=p'.sh+o.sh
 snap:∀a v,sn a=some v->a.block<W.heap.size/\W.cell? a=some v/\∀(b:Nat)(o:AObj) p,H[b]? = some o->o.alive=true -> ι b=some p->p.blk≠a.block
 shz:∀(b:Nat)(o:AObj) p,H[b]? = some o -> ι b=some p->o.sh=0->p.sh=0
structure RO (sn:Z0l) (ι : Z0i) (H:Z00) (W:World):Prop where
 pl:∀b,b<H.length->∃p,ι b=some p
 obj:∀(b:Nat)(o:AObj) p,H[b]? = some o->o.alive=true -> ι b=some p->OR sn ι W o.body p
 snap:∀a v,sn a=some v->W.cell? a=some v
theorem R.ro{sn:Z0l}{ι : Z0i}{H:Z00}{W:World}(h:R sn ι H W):RO sn ι H W :=
 ⟨λb hb=>(h.dom b).1 hb,h.obj,λa v hv=>(h.snap a v hv).2.1⟩
theorem RO.place{sn:Z0l}{ι : Z0i}{H:Z00}{W:World}(h:RO sn ι H W){b:Nat}{o:AObj}(hb:H[b]? = some o):∃p,ι b=some p :=
 h.pl b (Y04.1 hb).1
theorem RO.le{sn:Z0l}{ι ι':Z0i}{H:Z00}{W:World}(h:RO sn ι H W)(hl:Le sn sn ι ι'):RO sn ι' H W :=
 ⟨fun b hb => let ⟨p, hp⟩ := h.pl b hb; ⟨p, hl.ι _ _ hp⟩, fun b o p hb ha hp => by
   obtain⟨q,hq⟩:=h.place hb
   have:=hl.ι _ _ hq
   rw[hp]at this;simp at this;subst this
   exact Z0Q hl rfl (h.obj b o p hb ha hq),h.snap⟩
structure Stp (sn:Z0l) (ι : Z0i) (H:Z00) (W:World) (sn':Z0l) (ι':Z0i) (H':Z00) (W':World):Prop where
 rel:R sn' ι' H' W'
 le:Le sn sn' ι ι'
 fresh:∀b p,ι' b=some p -> ι b=some p\/W.heap.size<=p.blk\/∃ (b0:Nat) (o0:AObj) (p0:Place),H[b0]? = some o0/\o0.alive=true /\ ι b0=some p0/\p0.blk=p.blk
 frame:∀c,c<W.heap.size->(∀(b:Nat)(o:AObj) p,H[b]? = some o->o.alive=true -> ι b=some p->p.blk≠c)->W'.heap[c]? = W.heap[c]?
 size:W.heap.size<=W'.heap.size
 os:W'.os=W.os
 tape:W'.tape=W.tape
 output:W'.output=W.output
 sfresh:∀a v,sn' a=some v->sn a=some v\/W.heap.size<=a.block\/∃ (b0:Nat) (o0:AObj) (p0:Place),H[b0]? = some o0/\o0.alive=true /\ ι b0=some p0/\p0.blk=a.block
 evo:∀(b:Nat)(o:AObj),H[b]? = some o->∃o',H'[b]? = some o'/\o'.fam=o.fam/\o'.sh=o.sh/\(o'.alive=true->o.alive=true)
theorem Stp.refl{sn:Z0l}{ι : Z0i}{H:Z00}{W:World}(h:R sn ι H W):Stp sn ι H W sn ι H W :=
 ⟨h,Le.refl _ _,λ_ _ h=>.inl h,λ_ _ _=>rfl,Y03 _,rfl,rfl,rfl,λ_ _ h=>.inl h,λb o h=>⟨o,h,rfl,rfl,id⟩⟩
theorem R.place{sn:Z0l}{ι : Z0i}{H:Z00}{W:World}(h:R sn ι H W){b:Nat}{o:AObj}(hb:H[b]? = some o):∃p,ι b=some p :=
 (h.dom b).1 (Y04.1 hb).1
theorem Stp.trans {sn sn1 sn2 : Z0l} {ι ι1 ι2 : Z0i} {H H1 H2 : Z00} {W W1 W2 : World} (h0 : R sn ι H W)
  (h:Stp sn ι H W sn1 ι1 H1 W1) (k:Stp sn1 ι1 H1 W1 sn2 ι2 H2 W2):Stp sn ι H W sn2 ι2 H2 W2:=by
 have old : ∀ (b : Nat) (o : AObj) p, H1[b]? = some o -> o.alive = true -> ι1 b = some p -> p.blk < W.heap.size ->
   ∃ (b0:Nat) (o0:AObj) (p0:Place),H[b0]? = some o0/\o0.alive=true /\ ι b0=some p0/\p0.blk=p.blk:=by
  intro b o p hb ha hp hlt
  rcases h.fresh b p hp with h1|h1|h1
  · have hbl:b<H.length:=(h0.dom b).2 ⟨p,h1⟩
    have hg:H[b]? = some H[b]:=Y0m hbl
    obtain⟨o',e1,_,_,e4⟩:=h.evo b _ hg
    rw[hb]at e1;simp at e1;subst e1
    exact⟨b,_,p,hg,e4 ha,h1,rfl⟩
  ·omega
  ·exact h1
 refine⟨k.rel,h.le.trans k.le,?_,?_,Nat.le_trans h.size k.size,k.os.trans h.os,k.tape.trans h.tape,k.output.trans h.output,?_,?_⟩
 · intro b p hp
   rcases k.fresh b p hp with h1|h1|⟨b1,o1,p1,g1,g2,g3,g4⟩
   ·exact h.fresh b p h1
   ·exact .inr (.inl (Nat.le_trans h.size h1))
   · by_cases hlt:p1.blk<W.heap.size
     · obtain⟨b0,o0,p0,e1,e2,e3,e4⟩:=old b1 o1 p1 g1 g2 g3 hlt
       exact .inr (.inr ⟨b0,o0,p0,e1,e2,e3,e4.trans g4⟩)
     ·exact .inr (.inl (by omega))
 · intro c hc hno
   rw[k.frame c (by have:=h.size;omega),h.frame c hc hno]
   intro b o p hb ha hp e
   obtain⟨b0,o0,p0,e1,e2,e3,e4⟩:=old b o p hb ha hp (by omega)
   exact hno b0 o0 p0 e1 e2 e3 (by omega)
 · intro a v hv
   rcases k.sfresh a v hv with h1|h1|⟨b1,o1,p1,g1,g2,g3,g4⟩
   ·exact h.sfresh a v h1
   ·exact .inr (.inl (Nat.le_trans h.size h1))
   · by_cases hlt:p1.blk<W.heap.size
     · obtain⟨b0,o0,p0,e1,e2,e3,e4⟩:=old b1 o1 p1 g1 g2 g3 hlt
       exact .inr (.inr ⟨b0,o0,p0,e1,e2,e3,e4.trans g4⟩)
     ·exact .inr (.inl (by omega))
 · intro b o hb
   obtain⟨o1,e1,e2,e3,e4⟩:=h.evo b o hb
   obtain⟨o2,f1,f2,f3,f4⟩:=k.evo b o1 e1
   exact⟨o2,f1,f2.trans e2,f3.trans e3,λx=>e4 (f4 x)⟩
def kil(q:Nat->AObj->Bool):Nat->Z00->Z00
 |_,[]=>[]
 |i,o::H=>(if q i o then o.dead else o)::kil q (i+1) H
theorem Z3j(q:Nat->AObj->Bool):∀(H:Z00)(i b:Nat),(kil q i H)[b]? = (H[b]?).map λo=>if q (i+b) o then o.dead else o
 |[],i,b=>by simp[kil]
 |o::H,i,b=>by
  simp only[kil]
  cases b with
  |zero=>simp
  |succ b=>simp only[List.getElem?_cons_succ,Z3j q H (i+1) b];rw[show i+1+b=i+(b+1) from by omega]
theorem Z0L(q:Nat->AObj->Bool):∀(H:Z00)(i:Nat),(kil q i H).length=H.length
 |[],i=>rfl
 |o::H,i=>by simp[kil,Z0L q H]
theorem Z1T {q : Nat -> AObj -> Bool} {H : Z00} {b : Nat} {o' : AObj} (h : (kil q 0 H)[b]? = some o') :
  ∃o,H[b]? = some o/\o'.fam=o.fam/\o'.sh=o.sh/\(o'.alive=true->o'=o/\q b o=false):=by
 rw[Z3j]at h
 simp at h
 obtain⟨o,h1,h2⟩:=h
 refine⟨o,h1,?_⟩
 split at h2
 ·subst h2;simp[AObj.dead]
 ·subst h2;rename_i hq;exact⟨rfl,rfl,λ_=>⟨rfl,by simpa using hq⟩⟩
theorem Stp.kil{sn:Z0l}{ι : Z0i}{H:Z00}{W:World}(h:R sn ι H W)(q:Nat->AObj->Bool):Stp sn ι H W sn ι (kil q 0 H) W:=by
 refine⟨⟨?_,h.blk,?_,?_,?_,λb o p hb hp hz=>by
  obtain⟨o1,e1,_,s1,_⟩:=Z1T hb
  exact h.shz b o1 p e1 hp (by rw[<- s1];exact hz)⟩,Le.refl _ _,λ_ _ h=>.inl h,λ_ _ _=>rfl,Y03 _,rfl,rfl,rfl,λ_ _ h=>.inl h,?_⟩
 ·intro b;rw[Z0L];exact h.dom b
 · intro b o p hb ha hp
   obtain⟨o1,e1,_,_,e4⟩:=Z1T hb
   obtain⟨rfl,_⟩:=e4 ha
   exact h.obj b o p e1 ha hp
 · intro b b' o o' p p' hb hb' ha ha' hp hp' e
   obtain⟨o1,e1,f1,s1,a1⟩:=Z1T hb
   obtain⟨o2,e2,f2,s2,a2⟩:=Z1T hb'
   rw[f1,f2,s1,s2];exact h.sep b b' o1 o2 p p' e1 e2 (by rw[<- (a1 ha).1];exact ha) (by rw[<- (a2 ha').1];exact ha') hp hp' e
 · intro a v hv
   obtain⟨h1,h2,h3⟩:=h.snap a v hv
   refine⟨h1,h2,λb o p hb ha hp=>?_⟩
   obtain⟨o1,e1,_,_,e4⟩:=Z1T hb
   obtain⟨rfl,_⟩:=e4 ha
   exact h3 b o p e1 ha hp
 · intro b o hb
   refine⟨if q b o then o.dead else o,by rw[Z3j,hb];simp,?_,?_,?_⟩<;>split<;>simp[AObj.dead]
def upd(ι : Z0i)(n:Nat)(p:Place):Z0i:=λb=>if b=n then some p else ι b
theorem R.fresh_none{sn:Z0l}{ι : Z0i}{H:Z00}{W:World}(h:R sn ι H W) : ι H.length=none:=by
 cases e : ι H.length with
 |none=>rfl
 |some p=>have:=(h.dom H.length).2 ⟨p,e⟩;omega
theorem Le.upd{sn:Z0l}{ι : Z0i}{n:Nat}(h : ι n=Option.none)(p:Place):Le sn sn ι (upd ι n p) :=
 ⟨fun _ _ h => h, fun b q hq => by unfold Abs.upd; split; · subst_vars; rw [h] at hq; cases hq
                                   ·exact hq⟩
structure Ext (W W':World):Prop where
 old:∀c,c<W.heap.size->W'.heap[c]? = W.heap[c]?
 size:W.heap.size<=W'.heap.size
 os:W'.os=W.os
 tape:W'.tape=W.tape
 output:W'.output=W.output
theorem R.ext{sn:Z0l}{ι : Z0i}{H:Z00}{W W':World}(h:R sn ι H W)(e:Ext W W'):R sn ι H W':=by
 refine⟨h.dom,λb p hp=>Nat.lt_of_lt_of_le (h.blk b p hp) e.size,λb o p hb ha hp=>?_,h.sep,λa v hv=>?_,h.shz⟩
 ·exact Z0Q (Le.refl _ _) (e.old _ (h.blk b p hp)) (h.obj b o p hb ha hp)
 · obtain⟨h1,h2,h3⟩:=h.snap a v hv
   refine⟨Nat.lt_of_lt_of_le h1 e.size,?_,h3⟩
   rw[<- h2];exact World.cell?_of_block (e.old _ h1)
theorem Stp.ext{sn:Z0l}{ι : Z0i}{H:Z00}{W W':World}(h:R sn ι H W)(e:Ext W W'):Stp sn ι H W sn ι H W' :=
 ⟨h.ext e,Le.refl _ _,λ_ _ h=>.inl h,λc hc _=>e.old c hc,e.size,e.os,e.tape,e.output,λ_ _ h=>.inl h,λb o hb=>⟨o,hb,rfl,rfl,id⟩⟩
theorem Stp.alloc {sn : Z0l} {ι : Z0i} {H : Z00} {W : World} (h : R sn ι H W) (o : AObj) (ob : Obj) (n : Nat)
  (ho:o.alive=true->OR sn ι (W.alloc ob) o.body ⟨W.heap.size,0,n⟩) :
  Stp sn ι H W sn (upd ι H.length ⟨W.heap.size,0,n⟩) (H++[o]) (W.alloc ob):=by
 have hn:=h.fresh_none
 have hle:Le sn sn ι (Abs.upd ι H.length ⟨W.heap.size,0,n⟩):=Le.upd hn _
 have hold:∀c,c<W.heap.size->(W.alloc ob).heap[c]? = W.heap[c]?:=λc hc=>Below.heap_alloc W ob c hc
 have hcase:∀b p,Abs.upd ι H.length ⟨W.heap.size,0,n⟩ b=some p->(b=H.length/\p=⟨W.heap.size,0,n⟩)\/(b<H.length /\ ι b=some p):=by
  intro b p hp
  unfold Abs.upd at hp
  split at hp
  ·simp at hp;exact .inl ⟨by assumption,hp.symm⟩
  ·exact .inr ⟨(h.dom b).2 ⟨p,hp⟩,hp⟩
 have hget:∀(b:Nat)(x:AObj),(H++[o])[b]? = some x->(b=H.length/\x=o)\/(b<H.length/\H[b]? = some x):=by
  intro b x hx
  rw[List.getElem?_append]at hx
  split at hx
  ·exact .inr ⟨by assumption,hx⟩
  · rw[List.getElem?_singleton]at hx;split at hx
    ·simp at hx;exact .inl ⟨by omega,hx.symm⟩
    ·cases hx
 refine⟨⟨?_,?_,?_,?_,?_,λb x p hb hp hz=>by
  rcases hcase b p hp with ⟨_,rfl⟩|⟨hlt,hp⟩
  ·rfl
  · rcases hget b x hb with ⟨rfl,_⟩|⟨_,hb⟩
    ·omega
    ·exact h.shz b x p hb hp hz⟩,hle,?_,λc hc _=>hold c hc,by simp,rfl,rfl,rfl,λ_ _ h=>.inl h,?_⟩
 · intro b
   simp only[Y0s,List.length_singleton]
   constructor
   · intro hb
     by_cases hb':b<H.length
     ·obtain⟨p,hp⟩:=(h.dom b).1 hb';exact⟨p,hle.ι _ _ hp⟩
     ·exact⟨_,by unfold Abs.upd;rw[if_pos (by omega)]⟩
   · rintro⟨p,hp⟩
     rcases hcase b p hp with ⟨rfl,_⟩|⟨hb,_⟩<;>omega
 · intro b p hp
   rw[World.size_alloc]
   rcases hcase b p hp with ⟨_,rfl⟩|⟨_,hp⟩
   ·simp
   ·have:=h.blk b p hp;omega
 · intro b x p hb ha hp
   rcases hget b x hb with ⟨rfl,rfl⟩|⟨hlt,hb⟩
   · rcases hcase _ p hp with ⟨_,rfl⟩|⟨hlt,_⟩
     ·exact Z0Q hle rfl (ho ha)
     ·omega
   · rcases hcase _ p hp with ⟨rfl,rfl⟩|⟨_,hp⟩
     ·omega
     ·exact Z0Q hle (hold _ (h.blk b p hp)) (h.obj b x p hb ha hp)
 · intro b b' x x' p p' hb hb' ha ha' hp hp' e
   rcases hcase b p hp with ⟨rfl,rfl⟩|⟨hlt,hp⟩<;>rcases hcase b' p' hp' with ⟨rfl,rfl⟩|⟨hlt',hp'⟩
   ·rw[hb]at hb';simp at hb';subst hb';exact⟨rfl,rfl⟩
   ·have:=h.blk b' p' hp';simp at e;omega
   ·have:=h.blk b p hp;simp at e;omega
   · rcases hget b x hb with ⟨rfl,_⟩|⟨_,hb⟩
     ·omega
     rcases hget b' x' hb' with ⟨rfl,_⟩|⟨_,hb'⟩
     ·omega
     exact h.sep b b' x x' p p' hb hb' ha ha' hp hp' e
 · intro a v hv
   obtain⟨h1,h2,h3⟩:=h.snap a v hv
   refine⟨by simp;omega,?_,?_⟩
   ·rw[<- h2];exact World.cell?_of_block (hold _ h1)
   · intro b x p hb ha hp
     rcases hcase b p hp with ⟨rfl,rfl⟩|⟨hlt,hp⟩
     ·simp;omega
     · rcases hget b x hb with ⟨rfl,_⟩|⟨_,hb⟩
       ·omega
       exact h3 b x p hb ha hp
 · intro b p hp
   rcases hcase b p hp with ⟨rfl,rfl⟩|⟨_,hp⟩
   ·exact .inr (.inl (Y03 _))
   ·exact .inl hp
 · intro b x hb
   have hlt:b<H.length:=(Y04.1 hb).1
   exact⟨x,by rw[Y07 hlt];exact hb,rfl,rfl,id⟩
structure Turn (W W':World) (g:Nat):Prop where
 other:∀c,c≠g->W'.heap[c]? = W.heap[c]?
 size:W'.heap.size=W.heap.size
 os:W'.os=W.os
 tape:W'.tape=W.tape
 output:W'.output=W.output
def Z3G(b f:Nat)(H:Z00):Z00:=kil (λi o=>Y06 o.fam f && !Y06 i b) 0 H
theorem Stp.write {sn : Z0l} {ι : Z0i} {H : Z00} {W W' : World} (h : R sn ι H W) {b : Nat} {o : AObj} {p : Place} (hb : H[b]? = some o) (ha : o.alive = true) (hp : ι b = some p)
  (t:Turn W W' p.blk) (bd:ABody) (ho:OR sn ι W' bd p):Stp sn ι H W sn ι ((Z3G b o.fam H).set b { o with body:=bd }) W':=by
 have hblt:b<H.length:=(Y04.1 hb).1
 have hget : ∀ (c : Nat) (x : AObj), ((Z3G b o.fam H).set b { o with body := bd })[c]? = some x ->
   (c=b/\x={ o with body:=bd })\/(c≠b/\∃y,H[c]? = some y/\x.fam=y.fam/\x.sh=y.sh/\(x.alive=true->x=y/\y.fam≠o.fam)):=by
  intro c x hx
  rw[Y0e]at hx
  split at hx
  · subst_vars
    rw[Z3G,Z0L,if_pos hblt]at hx;simp at hx;exact .inl ⟨rfl,hx.symm⟩
  · rename_i hne
    obtain⟨y,h1,h2,h3,h4⟩:=Z1T hx
    refine .inr ⟨Ne.symm hne,y,h1,h2,h3,λhal=>?_⟩
    obtain⟨h5,h6⟩:=h4 hal
    refine⟨h5,λhf=>?_⟩
    have:Y06 y.fam o.fam=true:=by simp[hf]
    have h7:Y06 c b=false:=by cases hq:Y06 c b with|false=>rfl|true=>exact absurd (Nat.eq_of_beq_eq_true hq).symm hne
    simp[this,h7]at h6
 refine⟨⟨?_,?_,?_,?_,?_,λc x q hc hq hz=>by
  rcases hget c x hc with ⟨rfl,rfl⟩|⟨_,y,h1,_,h3,_⟩
  ·exact h.shz c o q hb hq hz
  ·exact h.shz c y q h1 hq (by rw[<- h3];exact hz)⟩,Le.refl _ _,λ_ _ h=>.inl h,?_,by rw[t.size];exact Y03 _,t.os,t.tape,t.output,λ_ _ h=>.inl h,?_⟩
 ·intro c;simp only[List.length_set,Z3G,Z0L];exact h.dom c
 ·intro c q hq;rw[t.size];exact h.blk c q hq
 · intro c x q hc hal hq
   rcases hget c x hc with ⟨rfl,rfl⟩|⟨hne,y,h1,h2,h3,h4⟩
   ·rw[hp]at hq;simp at hq;subst hq;exact ho
   · obtain⟨rfl,hf⟩:=h4 hal
     refine Z0Q (Le.refl _ _) (t.other _ λe=>?_) (h.obj c x q h1 hal hq)
     exact hf (h.sep c b x o q p h1 hb hal ha hq hp e).1
 · intro c c' x x' q q' hc hc' hal hal' hq hq' e
   have key:∀(c:Nat)(x:AObj),((Z3G b o.fam H).set b { o with body:=bd })[c]? = some x->∃y,H[c]? = some y/\x.fam=y.fam/\x.sh=y.sh/\(x.alive=true->y.alive=true):=by
    intro c x hx
    rcases hget c x hx with ⟨rfl,rfl⟩|⟨_,y,h1,h2,h3,h4⟩
    ·exact⟨o,hb,rfl,rfl,λ_=>ha⟩
    ·exact⟨y,h1,h2,h3,λh=>by rw[<- (h4 h).1];exact h⟩
   obtain⟨y,h1,h2,h3,h4⟩:=key c x hc
   obtain⟨y',h1',h2',h3',h4'⟩:=key c' x' hc'
   rw[h2,h3,h2',h3']
   exact h.sep c c' y y' q q' h1 h1' (h4 hal) (h4' hal') hq hq' e
 · intro a v hv
   obtain⟨h1,h2,h3⟩:=h.snap a v hv
   refine⟨by rw[t.size];exact h1,?_,?_⟩
   ·rw[<- h2];exact World.cell?_of_block (t.other _ (Ne.symm (h3 b o p hb ha hp)))
   · intro c x q hc hal hq
     rcases hget c x hc with ⟨rfl,rfl⟩|⟨hne,y,e1,e2,e3,e4⟩
     ·exact h3 c o q hb ha hq
     ·obtain⟨rfl,_⟩:=e4 hal;exact h3 c x q e1 hal hq
 ·intro c hc hno;exact t.other c (Ne.symm (hno b o p hb ha hp))
 · intro c x hc
   by_cases hcb:c=b
   · subst hcb;rw[hb]at hc;simp at hc;subst hc
     refine⟨{ o with body:=bd },?_,rfl,rfl,id⟩
     rw[Y0e,if_pos rfl,if_pos (by rw[Z3G,Z0L];exact hblt)]
   · rw[Y0e,if_neg (Ne.symm hcb)]
     refine⟨_,by rw[Z3G,Z3j,hc];rfl,?_,?_,?_⟩<;>(dsimp only;split<;>simp[AObj.dead])
theorem Stp.lose {sn : Z0l} {ι : Z0i} {H : Z00} {W W' : World} (h : R sn ι H W) {b : Nat} {o : AObj} {p : Place} (hb : H[b]? = some o) (ha : o.alive = true) (hp : ι b = some p)
  (t:Turn W W' p.blk):Stp sn ι H W sn ι ((Z3G b o.fam H).set b o.dead) W':=by
 have hblt:b<H.length:=(Y04.1 hb).1
 have hget : ∀ (c : Nat) (x : AObj), ((Z3G b o.fam H).set b o.dead)[c]? = some x ->
   (c=b/\x=o.dead)\/(c≠b/\∃y,H[c]? = some y/\x.fam=y.fam/\x.sh=y.sh/\(x.alive=true->x=y/\y.fam≠o.fam)):=by
  intro c x hx
  rw[Y0e]at hx
  split at hx
  · subst_vars
    rw[Z3G,Z0L,if_pos hblt]at hx;simp at hx;exact .inl ⟨rfl,hx.symm⟩
  · rename_i hne
    obtain⟨y,h1,h2,h3,h4⟩:=Z1T hx
    refine .inr ⟨Ne.symm hne,y,h1,h2,h3,λhal=>?_⟩
    obtain⟨h5,h6⟩:=h4 hal
    refine⟨h5,λhf=>?_⟩
    have:Y06 y.fam o.fam=true:=by simp[hf]
    have h7:Y06 c b=false:=by cases hq:Y06 c b with|false=>rfl|true=>exact absurd (Nat.eq_of_beq_eq_true hq).symm hne
    simp[this,h7]at h6
 have key:∀(c:Nat)(x:AObj),((Z3G b o.fam H).set b o.dead)[c]? = some x->∃y,H[c]? = some y/\x.fam=y.fam/\x.sh=y.sh/\(x.alive=true->y.alive=true):=by
  intro c x hx
  rcases hget c x hx with ⟨rfl,rfl⟩|⟨_,y,h1,h2,h3,h4⟩
  ·exact⟨o,hb,rfl,rfl,λ_=>ha⟩
  ·exact⟨y,h1,h2,h3,λh=>by rw[<- (h4 h).1];exact h⟩
 refine⟨⟨?_,?_,?_,?_,?_,λc x q hc hq hz=>by
  obtain⟨y,h1,_,h3,_⟩:=key c x hc
  exact h.shz c y q h1 hq (by rw[<- h3];exact hz)⟩,Le.refl _ _,λ_ _ h=>.inl h,?_,by rw[t.size];exact Y03 _,t.os,t.tape,t.output,λ_ _ h=>.inl h,?_⟩
 ·intro c;simp only[List.length_set,Z3G,Z0L];exact h.dom c
 ·intro c q hq;rw[t.size];exact h.blk c q hq
 · intro c x q hc hal hq
   rcases hget c x hc with ⟨rfl,rfl⟩|⟨hne,y,h1,h2,h3,h4⟩
   ·simp[AObj.dead]at hal
   · obtain⟨rfl,hf⟩:=h4 hal
     refine Z0Q (Le.refl _ _) (t.other _ λe=>?_) (h.obj c x q h1 hal hq)
     exact hf (h.sep c b x o q p h1 hb hal ha hq hp e).1
 · intro c c' x x' q q' hc hc' hal hal' hq hq' e
   obtain⟨y,h1,h2,h3,h4⟩:=key c x hc
   obtain⟨y',h1',h2',h3',h4'⟩:=key c' x' hc'
   rw[h2,h3,h2',h3']
   exact h.sep c c' y y' q q' h1 h1' (h4 hal) (h4' hal') hq hq' e
 · intro a v hv
   obtain⟨h1,h2,h3⟩:=h.snap a v hv
   refine⟨by rw[t.size];exact h1,?_,?_⟩
   ·rw[<- h2];exact World.cell?_of_block (t.other _ (Ne.symm (h3 b o p hb ha hp)))
   · intro c x q hc hal hq
     rcases hget c x hc with ⟨rfl,rfl⟩|⟨hne,y,e1,e2,e3,e4⟩
     ·simp[AObj.dead]at hal
     ·obtain⟨rfl,_⟩:=e4 hal;exact h3 c x q e1 hal hq
 ·intro c hc hno;exact t.other c (Ne.symm (hno b o p hb ha hp))
 · intro c x hc
   by_cases hcb:c=b
   · subst hcb;rw[hb]at hc;simp at hc;subst hc
     refine⟨o.dead,?_,rfl,rfl,λh=>by simp[AObj.dead]at h⟩
     rw[Y0e,if_pos rfl,if_pos (by rw[Z3G,Z0L];exact hblt)]
   · rw[Y0e,if_neg (Ne.symm hcb)]
     refine⟨_,by rw[Z3G,Z3j,hc];rfl,?_,?_,?_⟩<;>(dsimp only;split<;>simp[AObj.dead])
def ABody.len:ABody->Nat
 | .cells cs _=>cs.length
 |_=>0
def ZeB(f e:Nat)(H:Z00):Z00:=kil (λ_ o=>Y06 o.fam f && !Nat.ble (o.sh+o.body.len) e) 0 H
theorem Stp.grow {sn : Z0l} {ι : Z0i} {H : Z00} {W W' : World} (h : R sn ι H W) {b : Nat} {o : AObj} {p : Place} {cs : List AV} {ty : TypeId} (hb : H[b]? = some o) (ha : o.alive = true) (hp : ι b = some p)
  (hbd:o.body = .cells cs ty) (t:Turn W W' p.blk) (arr arr':Array Value) (hw:W.heap[p.blk]? = some (.cells arr ty (0,0))) (hw':W'.heap[p.blk]? = some (.cells arr' ty (0,0)))
  (hsz:arr'.size=arr.size) (hkeep:∀j,j<p.sh+cs.length->arr'[j]? = arr[j]?) (off:Nat) (bd:ABody) (ho:OR sn ι W' bd ⟨p.blk,p.sh+off,p.n⟩) :
  Stp sn ι H W sn (upd ι H.length ⟨p.blk,p.sh+off,p.n⟩) (ZeB o.fam (o.sh+cs.length) H++[⟨true,o.fam,o.sh+off,bd⟩]) W':=by
 have hn:=h.fresh_none
 have hle:Le sn sn ι (Abs.upd ι H.length ⟨p.blk,p.sh+off,p.n⟩):=Le.upd hn _
 have hcase:∀c q,Abs.upd ι H.length ⟨p.blk,p.sh+off,p.n⟩ c=some q->(c=H.length/\q=⟨p.blk,p.sh+off,p.n⟩)\/(c<H.length /\ ι c=some q):=by
  intro c q hq
  unfold Abs.upd at hq
  split at hq
  ·simp at hq;exact .inl ⟨by assumption,hq.symm⟩
  ·exact .inr ⟨(h.dom c).2 ⟨q,hq⟩,hq⟩
 have hget : ∀ (c : Nat) (x : AObj), (ZeB o.fam (o.sh + cs.length) H ++ [⟨true, o.fam, o.sh + off, bd⟩])[c]? = some x ->
   (c=H.length/\x=⟨true,o.fam,o.sh+off,bd⟩)\/(c<H.length/\∃y,H[c]? = some y/\x.fam=y.fam/\x.sh=y.sh/\(x.alive=true->x=y/\(y.fam=o.fam->y.sh+y.body.len<=o.sh+cs.length))):=by
  intro c x hx
  rw[List.getElem?_append,ZeB,Z0L]at hx
  split at hx
  · rename_i hlt
    obtain⟨y,h1,h2,h3,h4⟩:=Z1T hx
    refine .inr ⟨hlt,y,h1,h2,h3,λhal=>?_⟩
    obtain⟨h5,h6⟩:=h4 hal
    refine⟨h5,λhf=>?_⟩
    have:Y06 y.fam o.fam=true:=by simp[hf]
    simp[this]at h6
    exact h6
  · rw[List.getElem?_singleton]at hx;split at hx
    ·simp at hx;exact .inl ⟨by omega,hx.symm⟩
    ·cases hx
 refine⟨⟨?_,?_,?_,?_,?_,λc x q hc hq hz=>by
  rcases hcase c q hq with ⟨rfl,rfl⟩|⟨hlt,hq⟩
  · rcases hget _ x hc with ⟨_,rfl⟩|⟨_,_⟩
    · have hz':o.sh+off=0:=hz
      have:=h.shz b o p hb hp (by omega)
      show p.sh+off=0
      omega
    ·omega
  · rcases hget c x hc with ⟨rfl,_⟩|⟨_,y,h1,_,h3,_⟩
    ·omega
    ·exact h.shz c y q h1 hq (by rw[<- h3];exact hz)⟩,hle,?_,?_,by rw[t.size];exact Y03 _,t.os,t.tape,t.output,λ_ _ h=>.inl h,?_⟩
 · intro c
   simp only[Y0s,List.length_singleton,ZeB,Z0L]
   constructor
   · intro hc
     by_cases hc':c<H.length
     ·obtain⟨q,hq⟩:=(h.dom c).1 hc';exact⟨q,hle.ι _ _ hq⟩
     ·exact⟨_,by unfold Abs.upd;rw[if_pos (by omega)]⟩
   · rintro⟨q,hq⟩
     rcases hcase c q hq with ⟨rfl,_⟩|⟨hc,_⟩<;>omega
 · intro c q hq
   rw[t.size]
   rcases hcase c q hq with ⟨_,rfl⟩|⟨_,hq⟩
   ·exact h.blk b p hp
   ·exact h.blk c q hq
 · intro c x q hc hal hq
   rcases hget c x hc with ⟨rfl,rfl⟩|⟨hlt,y,h1,h2,h3,h4⟩
   · rcases hcase _ q hq with ⟨_,rfl⟩|⟨hlt,_⟩
     ·exact Z0Q hle rfl ho
     ·omega
   · rcases hcase _ q hq with ⟨rfl,rfl⟩|⟨_,hq⟩
     ·omega
     · obtain⟨rfl,hend⟩:=h4 hal
       have hob:=h.obj c x q h1 hal hq
       by_cases hblk:q.blk=p.blk
       · obtain⟨hf,hs⟩:=h.sep c b x o q p h1 hb hal ha hq hp hblk
         have hend:=hend hf
         cases hxb:x.body with
         |cells cs' ty' =>
          rw[hxb]at hob hend
          simp only[OR]at hob
          obtain⟨a1,g1,g2,g3,g4⟩:=hob
          rw[hblk,hw]at g1;simp at g1;obtain⟨rfl,rfl⟩:=g1
          refine⟨arr',by rw[hblk,hw'],by omega,g3,λi c hi=>?_⟩
          obtain⟨v,k1,k2⟩:=g4 i c hi
          have hil:i<cs'.length:=(Y04.1 hi).1
          refine⟨v,?_,Z0R hle _ _ k2⟩
          rw[hkeep _ (by simp only[ABody.len]at hend;omega)];exact k1
         |map es cl=>rw[hxb]at hob;simp only[OR]at hob;obtain⟨_,g1,_⟩:=hob;rw[hblk,hw]at g1;cases g1
         |siter s ps=>rw[hxb]at hob;simp only[OR]at hob;obtain⟨_,g1,_⟩:=hob;rw[hblk,hw]at g1;cases g1
         |loop g ts=>rw[hxb]at hob;simp only[OR]at hob;obtain⟨_,g1,_⟩:=hob;rw[hblk,hw]at g1;cases g1
       ·exact Z0Q hle (t.other _ hblk) hob
 · intro c c' x x' q q' hc hc' hal hal' hq hq' e
   rcases hcase c q hq with ⟨rfl,rfl⟩|⟨hlt,hq⟩<;>rcases hcase c' q' hq' with ⟨rfl,rfl⟩|⟨hlt',hq'⟩
   ·rw[hc]at hc';simp at hc';subst hc';exact⟨rfl,rfl⟩
   · rcases hget _ x hc with ⟨_,rfl⟩|⟨_,_⟩
     · rcases hget c' x' hc' with ⟨rfl,_⟩|⟨_,y,h1,h2,h3,h4⟩
       ·omega
       · obtain⟨hf,hs⟩:=h.sep b c' o y p q' hb h1 ha (by rw[<- (h4 hal').1];exact hal') hp hq' e
         rw[h2,h3];exact⟨hf,by simp;omega⟩
     ·omega
   · rcases hget _ x' hc' with ⟨_,rfl⟩|⟨_,_⟩
     · rcases hget c x hc with ⟨rfl,_⟩|⟨_,y,h1,h2,h3,h4⟩
       ·omega
       · obtain⟨hf,hs⟩:=h.sep c b y o q p h1 hb (by rw[<- (h4 hal).1];exact hal) ha hq hp e
         rw[h2,h3];exact⟨hf,by simp;omega⟩
     ·omega
   · rcases hget c x hc with ⟨rfl,_⟩|⟨_,y,h1,h2,h3,h4⟩
     ·omega
     rcases hget c' x' hc' with ⟨rfl,_⟩|⟨_,y',h1',h2',h3',h4'⟩
     ·omega
     rw[h2,h3,h2',h3']
     exact h.sep c c' y y' q q' h1 h1' (by rw[<- (h4 hal).1];exact hal) (by rw[<- (h4' hal').1];exact hal') hq hq' e
 · intro a v hv
   obtain⟨h1,h2,h3⟩:=h.snap a v hv
   refine⟨by rw[t.size];exact h1,?_,?_⟩
   ·rw[<- h2];exact World.cell?_of_block (t.other _ (Ne.symm (h3 b o p hb ha hp)))
   · intro c x q hc hal hq
     rcases hcase c q hq with ⟨rfl,rfl⟩|⟨hlt,hq⟩
     ·exact h3 b o p hb ha hp
     · rcases hget c x hc with ⟨rfl,_⟩|⟨_,y,e1,_,_,e4⟩
       ·omega
       ·obtain⟨rfl,_⟩:=e4 hal;exact h3 c x q e1 hal hq
 · intro c q hq
   rcases hcase c q hq with ⟨rfl,rfl⟩|⟨_,hq⟩
   ·exact .inr (.inr ⟨b,o,p,hb,ha,hp,rfl⟩)
   ·exact .inl hq
 ·intro c hc hno;exact t.other c (Ne.symm (hno b o p hb ha hp))
 · intro c x hc
   have hlt:c<H.length:=(Y04.1 hc).1
   rw[Y07 (by rw[ZeB,Z0L];exact hlt)]
   refine⟨_,by rw[ZeB,Z3j,hc];rfl,?_,?_,?_⟩<;>(dsimp only;split<;>simp[AObj.dead])
end Go.Abs
end
section
namespace Go.Abs
open Go.RowKit
def one:AV->Bool
 | .agg _=>false
 | .tuple _=>false
 |_=>true
def AV.cells:AV->List AV
 | .agg cs=>cs
 |v=>[v]
def tsz(P:Program)(t:TypeId):Option Nat:=match P.info? t with|some i=>some i.size|none=>none
def Z4u(P:Program)(t:TypeId):Option Bool :=
 match P.underlying t with
 |some (.struct _)=>some true
 |some (.array _ _)=>some true
 |some _=>some false
 |none=>none
def tk:Nat->List AV->Option (List AV)
 |0,_=>some []
 |n+1,c::l=>match tk n l with|some r=>some (c::r)|none=>none
 |_+1,[]=>none
theorem Z3J:∀{n:Nat}{l r:List AV},tk n l=some r->n<=l.length/\r=l.take n
 |0,l,r,h=>by simp[tk]at h;subst h;simp
 |n+1,[],r,h=>by simp[tk]at h
 |n+1,c::l,r,h=>by
  simp only[tk]at h;split at h<;>simp at h
  subst h;rename_i e;obtain⟨h1,h2⟩:=Z3J e;subst h2;exact⟨by simpa using h1,by simp⟩
section vals
variable {sn:Z0l} {ι : Z0i}
theorem VR.bool{b:Bool}{v:Value}(h:VR sn ι (.bool b) v):v = .bool b:=by simpa[VR]using h
theorem VR.int{k:IntKind}{n:Int}{v:Value}(h:VR sn ι (.int k n) v):v = .int k n:=by simpa[VR]using h
theorem VR.str{s:List UInt8}{v:Value}(h:VR sn ι (.str s) v):∃ba:ByteArray,v = .string ba/\ba.data.toList=s:=by simpa[VR]using h
theorem VR.agg{cs:List AV}{v:Value}(h:VR sn ι (.agg cs) v):∃d,v = .agg d/\LR sn ι cs d.toList:=by simpa[VR]using h
theorem VR.tuple{cs:List AV}{v:Value}(h:VR sn ι (.tuple cs) v):∃d,v = .tuple d/\LR sn ι cs d.toList:=by simpa[VR]using h
theorem VR.ptr{b off:Nat}{v:Value}(h:VR sn ι (.ptr b off) v):∃p,ι b=some p/\v = .pointer (some ⟨p.blk,p.sh+off,none⟩):=by simpa[VR]using h
theorem VR.rp{cs:List AV}{v:Value}(h:VR sn ι (.rp cs) v):∃b o,v = .pointer (some ⟨b,o,none⟩)/\MR sn cs b o:=by simpa[VR]using h
theorem VR.slice{b off len cap z:Nat}{v:Value}(h:VR sn ι (.slice b off len cap z) v):∃p a cap',ι b=some p/\v = .slice (some a) len cap'/\len<=cap/\cap<=cap'/\(cap'≠0->a=⟨p.blk,p.sh+off,none⟩/\p.sh+off+cap'*z<=p.n):=by simpa[VR]using h
theorem VR.rs{n z:Nat}{cs:List AV}{v:Value}(h:VR sn ι (.rs n z cs) v):(n=0/\cs=[]/\v = .slice none 0 0)\/∃ (a:Addr) (cap:Nat),v = .slice (some a) n cap/\n<=cap/\cs.length=n*z/\MR sn cs a.block a.off/\(n≠0->a.spot=none):=by simpa only[VR]using h
theorem VR.iface{t:TypeId}{u:AV}{v:Value}(h:VR sn ι (.iface t u) v):∃x,v = .iface t x/\VR sn ι u x:=by simpa[VR]using h
theorem VR.func{fn:Fn}{f c:List AV}{v:Value}(h:VR sn ι (.func fn f c) v):∃f' c',v = .func fn f' c'/\LR sn ι f f'.toList/\LR sn ι c c'.toList:=by simpa[VR]using h
theorem VR.map{b:Nat}{v:Value}(h:VR sn ι (.map b) v):∃p,ι b=some p/\v = .map (some p.blk):=by simpa[VR]using h
theorem VR.nslice{v:Value}(h:VR sn ι .nslice v):v = .slice none 0 0:=by simpa[VR]using h
theorem VR.nmap{v:Value}(h:VR sn ι .nmap v):v = .map none:=by simpa[VR]using h
theorem Zf6(b:Bool):VR sn ι (.bool b) (.bool b):=by simp[VR]
theorem Z62(k:IntKind)(n:Int):VR sn ι (.int k n) (.int k n):=by simp[VR]
theorem Z9A{ba:ByteArray}{s:List UInt8}(h:ba.data.toList=s):VR sn ι (.str s) (.string ba):=by simp only[VR];exact⟨ba,rfl,h⟩
theorem Z4t{cs:List AV}{d:Array Value}(h:LR sn ι cs d.toList):VR sn ι (.agg cs) (.agg d):=by simp only[VR];exact⟨d,rfl,h⟩
theorem Z45{cs:List AV}{d:Array Value}(h:LR sn ι cs d.toList):VR sn ι (.tuple cs) (.tuple d):=by simp only[VR];exact⟨d,rfl,h⟩
theorem Z4Y:VR sn ι (.tuple []) undef:=by simp only[VR,undef,LR];exact⟨#[],rfl,rfl⟩
theorem VR.cells{u:AV}{v:Value}(h:VR sn ι u v):LR sn ι u.cells v.cells.toList:=by
 cases u with
 |agg cs=>obtain⟨d,rfl,h'⟩:=h.agg;exact h'
 |_ =>
  have hv:v.cells = #[v]:=by
   simp only[VR]at h
   cases v<;>first|rfl|(exfalso;simp at h)
  rw[hv];simp only[AV.cells,LR];exact⟨v,[],rfl,h,rfl⟩
theorem VR.one{u:AV}{v:Value}(h:VR sn ι u v)(h1:one u=true):v.oneCell'=true:=by
 cases u<;>simp only[VR]at h<;>cases v<;>first|rfl|(exfalso;simp at h;done)|(simp[Abs.one]at h1)
end vals
mutual
def ofV:Value->Option AV
 | .bool b=>some (.bool b)
 | .int k n=>some (.int k n)
 | .string s=>some (.str s.data.toList)
 | .pointer none=>some .nptr
 | .slice none 0 0=>some .nslice
 | .map none=>some .nmap
 | .nilFunc=>some .nfunc
 | .nilIface=>some .niface
 | .agg a=>match ofVA a with|some l=>some (.agg l)|none=>none
 | .tuple a=>match ofVA a with|some l=>some (.tuple l)|none=>none
 | .func fn f c=>match ofVA f,ofVA c with|some x,some y=>some (.func fn x y)|_,_=>none
 | .iface t v=>match ofV v with|some x=>some (.iface t x)|none=>none
 |_=>none
def ofVA:Array Value->Option (List AV)
 |⟨l⟩=>ofVL l
def ofVL:List Value->Option (List AV)
 |[]=>some []
 |v::l=>match ofV v,ofVL l with|some x,some y=>some (x::y)|_,_=>none
end
mutual
theorem Z8c{sn:Z0l}{ι : Z0i}:∀(v:Value)(u:AV),ofV v=some u->VR sn ι u v
 | .bool b,u,h=>by simp[ofV]at h;subst h;simp[VR]
 | .int k n,u,h=>by simp[ofV]at h;subst h;simp[VR]
 | .string s,u,h=>by simp[ofV]at h;subst h;simp[VR]
 | .pointer none,u,h=>by simp[ofV]at h;subst h;simp[VR]
 | .pointer (some a),u,h=>by simp[ofV]at h
 | .slice none 0 0,u,h=>by simp[ofV]at h;subst h;simp[VR]
 | .slice none 0 (n+1),u,h=>by simp[ofV]at h
 | .slice none (n+1) c,u,h=>by simp[ofV]at h
 | .slice (some a) n c,u,h=>by simp[ofV]at h
 | .map none,u,h=>by simp[ofV]at h;subst h;simp[VR]
 | .map (some a),u,h=>by simp[ofV]at h
 | .nilFunc,u,h=>by simp[ofV]at h;subst h;simp[VR]
 | .nilIface,u,h=>by simp[ofV]at h;subst h;simp[VR]
 | .agg a,u,h=>by simp only[ofV]at h;split at h<;>simp at h;subst h;rename_i e;exact Z4t (ofVA_LR a _ e)
 | .tuple a,u,h=>by simp only[ofV]at h;split at h<;>simp at h;subst h;rename_i e;exact Z45 (ofVA_LR a _ e)
 | .func fn f c,u,h=>by
  simp only[ofV]at h;split at h<;>simp at h;subst h;rename_i e e'
  simp only[VR];exact⟨f,c,rfl,ofVA_LR f _ e,ofVA_LR c _ e'⟩
 | .iface t v,u,h=>by simp only[ofV]at h;split at h<;>simp at h;subst h;rename_i e;simp only[VR];exact⟨v,rfl,Z8c v _ e⟩
 | .float k b,u,h=>by simp[ofV]at h
 | .complex k a b,u,h=>by simp[ofV]at h
 | .chan c,u,h=>by simp[ofV]at h
theorem ofVA_LR{sn:Z0l}{ι : Z0i}:∀(a:Array Value)(l:List AV),ofVA a=some l->LR sn ι l a.toList
 |⟨a⟩,l,h=>by simp only[ofVA]at h;exact ofVL_LR a l h
theorem ofVL_LR{sn:Z0l}{ι : Z0i}:∀(a:List Value)(l:List AV),ofVL a=some l->LR sn ι l a
 |[],l,h=>by simp[ofVL]at h;subst h;simp[LR]
 |v::a,l,h=>by
  simp only[ofVL]at h;split at h<;>simp at h;subst h;rename_i e e'
  simp only[LR];exact⟨v,a,rfl,Z8c v _ e,ofVL_LR a _ e'⟩
end
def Z3C(P:Program)(t:TypeId):Option AV:=match P.info? t with|some i=>(match i.zero with|some z=>ofV z|none=>none)|none=>none
section types
variable {P:Program} {t:TypeId}
theorem Z0D{n:Nat}(h:tsz P t=some n)(w:World):(sizeOf t).run P w = .ok n w:=by
 unfold tsz at h;split at h<;>simp at h;subst h;rename_i e;simp[sizeOf,typeInfo,e]
theorem ZhE{n:Nat}(h:tsz P t=some n):∃i,P.info? t=some i/\i.size=n:=by
 unfold tsz at h;split at h<;>simp at h;exact⟨_,by assumption,h⟩
theorem Z47{b:Bool}(h:Z4u P t=some b)(w:World):(isAgg t).run P w = .ok b w:=by
 unfold Z4u at h
 cases e:P.underlying t with
 |none=>simp[e]at h
 |some d=>rw[e]at h;cases d<;>simp at h<;>subst h<;>simp[isAgg,run_underlying e]
theorem Z2P{u:AV}(h:Z3C P t=some u):∃z,(∀w,(zeroValue t).run P w = .ok z w)/\∀sn ι,VR sn ι u z:=by
 unfold Z3C at h;split at h
 · rename_i i e;split at h
   ·rename_i z e';exact⟨z,λw=>by simp[zeroValue,typeInfo,e,e'],λsn ι=>Z8c z u h⟩
   ·simp at h
 ·simp at h
end types
def rd(H:Z00)(a:AV)(n:Nat):Option (List AV) :=
 match a with
 | .ptr b off =>
  match H[b]? with
  |some o=>match o.alive,o.body with
   |true,.cells cs _=>tk n (cs.drop off)
   |_,_=>none
  |none=>none
 | .rp cs=>tk n cs
 |_=>none
theorem Z20{W:World}{g o:Nat}{arr:Array Value}{ty:TypeId}{fr:Nat×Nat}(h:W.heap[g]? = some (.cells arr ty fr)):W.cell? ⟨g,o,none⟩=arr[o]?:=by
 simp[World.cell?,h]
theorem Z0I(g o n:Nat):(⟨g,o,none⟩:Addr).add n=⟨g,o+n,none⟩:=by unfold Addr.add;split<;>simp_all
theorem Z59 {sn : Z0l} {ι : Z0i} {H : Z00} {W : World} (hR : RO sn ι H W) {a : AV} {n : Nat} {cs : List AV} (h : rd H a n = some cs) {v : Value} (hv : VR sn ι a v) :
  ∃g o vs,v = .pointer (some ⟨g,o,none⟩)/\LR sn ι cs vs/\vs.length=n/\∀(j:Nat)(x:Value),vs[j]? = some x->W.cell? ((⟨g,o,none⟩:Addr).add j)=some x:=by
 have key : ∀ (g o : Nat) (l : List AV), l.length = n -> (∀ (j : Nat) (c : AV), l[j]? = some c -> ∃ x, W.cell? ⟨g, o + j, none⟩ = some x /\ VR sn ι c x) ->
   ∃vs:List Value,LR sn ι l vs/\vs.length=n/\∀(j:Nat)(x:Value),vs[j]? = some x->W.cell? ((⟨g,o,none⟩:Addr).add j)=some x:=by
  intro g o l hl hc
  refine⟨(List.range n).map λj=>(W.cell? ⟨g,o+j,none⟩).getD undef,Z6k.2 ⟨by simp[hl],λj c hj=>?_⟩,by simp,λj x hx=>?_⟩
  · obtain⟨x,h1,h2⟩:=hc j c hj
    have hjn:j<n:=by have:=(Y04.1 hj).1;omega
    exact⟨x,by simp[hjn,h1],h2⟩
  · have hjn:j<n:=by have:=(Y04.1 hx).1;simpa using this
    obtain⟨y,h1,h2⟩:=hc j l[j] (Y0m (by omega))
    simp[hjn,h1]at hx;subst hx
    rw[Z0I];exact h1
 cases a with
 |ptr b off =>
  obtain⟨p,hp,rfl⟩:=hv.ptr
  simp only[rd]at h
  split at h
  · rename_i o ho
    split at h
    · rename_i csx ty hal hbd
      obtain⟨h1,rfl⟩:=Z3J h
      have hob:=hR.obj b o p ho hal hp
      rw[hbd]at hob;simp only[OR]at hob
      obtain⟨arr,g1,g2,g3,g4⟩:=hob
      obtain⟨vs,k1,k2,k3⟩:=key p.blk (p.sh+off) ((csx.drop off).take n) (by simp at h1⊢;omega) (by
       intro j c hj
       rw[Y0a]at hj
       split at hj
       · rw[Y0i]at hj
         obtain⟨x,e1,e2⟩:=g4 _ c hj
         exact⟨x,by rw[Z20 g1,Y0d];exact e1,e2⟩
       ·simp at hj)
      exact⟨_,_,vs,rfl,k1,k2,k3⟩
    ·simp at h
  ·simp at h
 |rp csx =>
  obtain⟨g,o,rfl,hm⟩:=hv.rp
  simp only[rd]at h
  obtain⟨h1,rfl⟩:=Z3J h
  obtain⟨vs,k1,k2,k3⟩:=key g o (csx.take n) (by simp;omega) (by
   intro j c hj
   rw[Y0a]at hj
   split at hj
   · obtain⟨x,e1,e2⟩:=hm.get hj
     exact⟨x,hR.snap _ _ e1,Zbc e2⟩
   ·simp at hj)
  exact⟨_,_,vs,rfl,k1,k2,k3⟩
 |_=>simp[rd]at h
def Z9f(P:Program)(t:TypeId)(a:AV)(H:Z00):Option AV :=
 match Z4u P t with
 |some true=>match tsz P t with
  |some n=>match rd H a n with|some cs=>some (.agg cs)|none=>none
  |none=>none
 |some false=>match rd H a 1 with|some [c]=>some c|_=>none
 |none=>none
section pure
variable {P:Program} {sn:Z0l} {ι : Z0i} {H:Z00} {W:World}
theorem Z5g (hR : RO sn ι H W) {t : TypeId} {a : AV} {u : AV} (h : Z9f P t a H = some u) {v : Value} (hv : VR sn ι a v) :
  ∃ad x,v = .pointer (some ad)/\(loadVar t ad).run P W = .ok x W/\VR sn ι u x:=by
 unfold Z9f at h
 split at h
 · rename_i hag
   split at h
   · rename_i n hn
     split at h<;>simp at h
     subst h;rename_i cs hcs
     obtain⟨g,o,vs,rfl,h1,h2,h3⟩:=Z59 hR hcs hv
     have hl:=run_loadCells_list (P:=P) W ⟨g,o,none⟩ vs h3
     refine⟨_,.agg vs.toArray,rfl,?_,Z4t (by simpa using h1)⟩
     rw[h2]at hl
     simp only[loadVar,Y00,Z47 hag,Y01,if_true,Z0D hn,hl,Y02]
   ·simp at h
 · rename_i hag
   split at h<;>simp at h
   subst h;rename_i cs hcs
   obtain⟨g,o,vs,rfl,h1,h2,h3⟩:=Z59 hR hcs hv
   simp only[LR]at h1
   obtain⟨d,ds,rfl,hd,rfl⟩:=h1
   have hc:=h3 0 d rfl
   rw[Z0I,Y0n]at hc
   refine⟨_,d,rfl,?_,hd⟩
   simp only[loadVar,Y00,Z47 hag,Y01,Y0b,if_false]
   simp[hc]
 ·simp at h
theorem Zeq (hR : RO sn ι H W) {t : TypeId} {a : AV} {u : AV} (h : Z9f P t a H = some u) {v : Value} (hv : VR sn ι a v) :
  ∃x,(Instr.loadAt t v).run P W = .ok x W/\VR sn ι u x:=by
 obtain⟨ad,x,rfl,h1,h2⟩:=Z5g hR h hv
 exact⟨x,by simp only[Instr.loadAt,Instr.sureAddr,Y00,Y02,Y01,h1],h2⟩
def Z5V(P:Program)(t:TypeId)(cs:List AV)(off:Nat):Option AV :=
 match Z4u P t with
 |some true=>match tsz P t with
  |some n=>match tk n (cs.drop off) with|some l=>some (.agg l)|none=>none
  |none=>none
 |some false=>cs[off]?
 |none=>none
theorem Z4b {t : TypeId} {cs : List AV} {off : Nat} {u : AV} (h : Z5V P t cs off = some u) {d : Array Value} (hd : LR sn ι cs d.toList) (w : World) :
  ∃x,(part t d off).run P w = .ok x w/\VR sn ι u x:=by
 unfold Z5V at h
 split at h
 · rename_i hag
   split at h
   · rename_i n hn
     split at h<;>simp at h
     subst h;rename_i l hl
     obtain⟨h1,rfl⟩:=Z3J hl
     refine⟨.agg (d.extract off (off+n)),by simp only[part,Y00,Z47 hag,Y01,if_true,Z0D hn,Y02],Z4t ?_⟩
     have e:(d.extract off (off+n)).toList=(d.toList.drop off).take n:=by simp[List.extract_eq_take_drop,Nat.add_sub_cancel_left]
     rw[e];exact (hd.drop off).take n
   ·simp at h
 · rename_i hag
   obtain⟨x,h1,h2⟩:=hd.get h
   rw[Y08]at h1
   exact⟨x,by simp only[part,Y00,Z47 hag,Y01,Y0b,if_false,h1,Y02],h2⟩
 ·simp at h
def Z2w(P:Program)(t:TypeId):Option (List (TypeId×Nat)) :=
 if P.stoodInHeld t then none else
 match P.underlying t with
 |some (.struct fs)=>fs.toList.foldr (λf r=>match r with|some l=>if f.name = "_" then none else some ((f.type,f.offset)::l)|none=>none) (some [])
 |_=>none
def ZkI(e:TypeId->AV->AV->Option Bool)(P:Program):List (TypeId×Nat)->List AV->List AV->Option Bool
 |[],_,_=>some true
 |(t,off)::fs,xs,ys =>
  match Z5V P t xs off,Z5V P t ys off with
  |some a,some b=>match e t a b with
   |some true=>ZkI e P fs xs ys
   |some false=>some false
   |none=>none
  |_,_=>none
def aEq(P:Program):Nat->TypeId->AV->AV->Option Bool
 |0,_,_,_=>none
 |d+1,t,x,y =>
  match x,y with
  | .bool a,.bool b=>match P.underlying t with|some .bool=>some (a==b)|_=>none
  | .int k a,.int k' b=>match P.underlying t with|some (.int _)=>if k=k' then some (a==b) else none|_=>none
  | .str a,.str b=>match P.underlying t with|some .string=>some (a==b)|_=>none
  | .agg xs,.agg ys=>match Z2w P t with|some fs=>ZkI (aEq P d) P fs xs ys|none=>none
  | .nptr,.nptr=>match P.underlying t with|some (.pointer _)=>some true|_=>none
  | .nptr,.ptr _ _=>match P.underlying t with|some (.pointer _)=>some false|_=>none
  | .ptr _ _,.nptr=>match P.underlying t with|some (.pointer _)=>some false|_=>none
  | .nslice,.nslice=>match P.underlying t with|some (.slice _)=>some true|_=>none
  | .nslice,.slice ..=>match P.underlying t with|some (.slice _)=>some false|_=>none
  | .nslice,.rs (_+1) _ _=>match P.underlying t with|some (.slice _)=>some false|_=>none
  | .slice ..,.nslice=>match P.underlying t with|some (.slice _)=>some false|_=>none
  | .rs (_+1) _ _,.nslice=>match P.underlying t with|some (.slice _)=>some false|_=>none
  | .nmap,.nmap=>match P.underlying t with|some (.map _ _)=>some true|_=>none
  | .nmap,.map _=>match P.underlying t with|some (.map _ _)=>some false|_=>none
  | .map _,.nmap=>match P.underlying t with|some (.map _ _)=>some false|_=>none
  | .nfunc,.nfunc=>match P.underlying t with|some (.func _ _ _)=>some true|_=>none
  | .nfunc,.func ..=>match P.underlying t with|some (.func _ _ _)=>some false|_=>none
  | .func ..,.nfunc=>match P.underlying t with|some (.func _ _ _)=>some false|_=>none
  |_,_=>none
theorem Z7L {t : TypeId} {fs : List (TypeId × Nat)} (h : Z2w P t = some fs) :
  P.stoodInHeld t=false/\P.underlying t=some (.struct (P.fieldsOf t))/\(∀f∈(P.fieldsOf t).toList,f.name ≠ "_")/\fs=(P.fieldsOf t).toList.map λf=>(f.type,f.offset):=by
 unfold Z2w at h
 split at h
 ·simp at h
 rename_i hst
 split at h
 · rename_i a ha
   have hf:P.fieldsOf t=a:=by simp[Program.fieldsOf,ha]
   rw[hf]
   refine⟨by simpa using hst,ha,?_⟩
   generalize a.toList=l at h
   induction l generalizing fs with
   |nil=>simp at h;subst h;simp
   |cons f l ih =>
    simp only[List.foldr_cons]at h
    split at h
    · rename_i r hr
      split at h<;>simp at h
      subst h;rename_i hn
      obtain⟨h1,h2⟩:=ih hr
      refine⟨?_,by simp[h2]⟩
      intro g hg;rcases List.mem_cons.1 hg with rfl|hg
      ·exact hn
      ·exact h1 g hg
    ·simp at h
 ·simp at h
theorem Z8n {e : TypeId -> AV -> AV -> Option Bool} {d : Nat} (he : ∀ (t : TypeId) (x y : AV) (b : Bool), e t x y = some b -> ∀ x' y', VR sn ι x x' -> VR sn ι y y' -> ∀ w, (Op.equalIn d t x' y').run P w = .ok b w) :
  ∀(l:List Field)(xs ys:List AV)(b:Bool),(∀f∈l,f.name ≠ "_")->ZkI e P (l.map λf=>(f.type,f.offset)) xs ys=some b->∀dx dy:Array Value,LR sn ι xs dx.toList->LR sn ι ys dy.toList ->
   ∀w,(Op.eqFields d dx dy l).run P w = .ok b w
 |[],xs,ys,b,hn,h,dx,dy,hx,hy,w=>by simp[ZkI]at h;subst h;simp[Op.eqFields]
 |f::l,xs,ys,b,hn,h,dx,dy,hx,hy,w=>by
  simp only[Y09,ZkI]at h
  split at h
  · rename_i a c ha hc
    obtain⟨a',h1,h2⟩:=Z4b ha hx w
    obtain⟨c',h3,h4⟩:=Z4b hc hy w
    have hne:f.name ≠ "_" := hn f (by simp)
    split at h
    · rename_i heq
      have:=he _ _ _ _ heq a' c' h2 h4 w
      simp only[Op.eqFields,hne,ne_eq,not_false_eq_true,if_true,Y00,h1,h3,this,Y01,Bool.not_true,Y0b,if_false]
      exact Z8n he l xs ys b (λg hg=>hn g (by simp[hg])) h dx dy hx hy w
    · rename_i heq
      simp at h;subst h
      have:=he _ _ _ _ heq a' c' h2 h4 w
      simp only[Op.eqFields,hne,ne_eq,not_false_eq_true,if_true,Y00,h1,h3,this,Y01,Bool.not_false,Y02]
    ·simp at h
  ·simp at h
theorem Z3b:∀(d:Nat)(t:TypeId)(x y:AV)(b:Bool),aEq P d t x y=some b->∀x' y',VR sn ι x x'->VR sn ι y y'->∀w,(Op.equalIn d t x' y').run P w = .ok b w
 |0,t,x,y,b,h,_,_,_,_,_=>by simp[aEq]at h
 |d+1,t,x,y,b,h,x',y',hx,hy,w=>by
  unfold aEq at h
  split at h
  case _ a c =>
   split at h<;>simp at h
   subst h;cases hx.bool;cases hy.bool;rename_i ht;simp[Op.equalIn,run_underlying ht]
  case _ k a k' c =>
   split at h<;>simp at h
   obtain⟨rfl,rfl⟩:=h;cases hx.int;cases hy.int;rename_i ht;simp[Op.equalIn,run_underlying ht]
  case _ a c =>
   split at h<;>simp at h
   subst h;obtain⟨ba,rfl,rfl⟩:=hx.str;obtain⟨bb,rfl,rfl⟩:=hy.str;rename_i ht
   simp only[Op.equalIn,Y00,run_underlying ht,Y01,Y02]
   rw[beq_toListBytes,ByteArray.toList_eq,ByteArray.toList_eq]
  case _ xs ys =>
   split at h
   · rename_i fs hfs
     obtain⟨h1,h2,h3,rfl⟩:=Z7L hfs
     obtain⟨dx,rfl,hdx⟩:=hx.agg;obtain⟨dy,rfl,hdy⟩:=hy.agg
     rw[run_equalIn_struct w d t dx dy h2 h1]
     exact Z8n (λt x y b hh x' y'=>Z3b d t x y b hh x' y') _ xs ys b h3 h dx dy hdx hdy w
   ·simp at h
  all_goals first
   |(simp at h;done)
   | (split at h <;> simp at h
      subst h;rename_i ht
      simp only[VR]at hx hy
      try (replace hx:=hx.resolve_left (λh0=>absurd h0.1 (Y0o _)))
      try (replace hy:=hy.resolve_left (λh0=>absurd h0.1 (Y0o _)))
      first|(subst hx)|(obtain⟨_,_,rfl⟩:=hx)|(obtain⟨_,_,_,_,rfl,_⟩:=hx)|(obtain⟨_,_,_,rfl,_⟩:=hx)|(obtain⟨_,_,rfl,_⟩:=hx)
      first|(subst hy)|(obtain⟨_,_,rfl⟩:=hy)|(obtain⟨_,_,_,_,rfl,_⟩:=hy)|(obtain⟨_,_,_,rfl,_⟩:=hy)|(obtain⟨_,_,rfl,_⟩:=hy)
      simp[Op.equalIn,run_underlying ht])
end pure
end Go.Abs
end
section
namespace Go.Abs
open Go.RowKit
def Z3y(op:BinOp)(k:IntKind)(a b:Int):Option AV :=
 match op with
 | .add=>some (.int k (k.wrap (a+b)))
 | .sub=>some (.int k (k.wrap (a-b)))
 | .mul=>some (.int k (k.wrap (a*b)))
 | .quo=>if b=0 then none else some (.int k (k.wrap (a.tdiv b)))
 | .rem=>if b=0 then none else some (.int k (a.tmod b))
 | .and=>some (.int k (bits .and k a b))
 | .or=>some (.int k (bits .or k a b))
 | .xor=>some (.int k (bits .xor k a b))
 | .andNot=>some (.int k (bits .andNot k a b))
 | .eql=>some (.bool (a==b))
 | .neq=>some (.bool (a != b))
 | .lss=>some (.bool (decide (a<b)))
 | .leq=>some (.bool (decide (a<=b)))
 | .gtr=>some (.bool (decide (a>b)))
 | .geq=>some (.bool (decide (a >= b)))
 | .shl=>none
 | .shr=>none
def Z7E(op:BinOp)(a b:List UInt8):Option AV :=
 match op with
 | .add=>if a.length+b.length<=9223372036854775807 then some (.str (a++b)) else none
 | .eql=>some (.bool (a==b))
 | .neq=>some (.bool !(a==b))
 | .lss=>some (.bool (Op.bytesLess a b))
 | .leq=>some (.bool (Op.bytesLess a b || a==b))
 | .gtr=>some (.bool !(Op.bytesLess a b || a==b))
 | .geq=>some (.bool !(Op.bytesLess a b))
 |_=>none
def Zbl(P:Program)(op:BinOp)(t:TypeId)(x y:AV):Option AV :=
 match x,y with
 | .int k a,.int k' b =>
  match op with
  | .shl=>if b<0 then none else some (.int k (k.wrap (a*2 ^ (min b.toNat k.bits))))
  | .shr=>if b<0 then none else some (.int k (a.fdiv (2 ^ (min b.toNat k.bits))))
  |_=>if k=k' then Z3y op k a b else none
 | .str a,.str b=>Z7E op a b
 | .agg a,.agg b =>
  if P.eqGuardType P.depth t then none else
  match op with
  | .eql=>match aEq P 10000 t x y with|some r=>some (.bool r)|none=>none
  | .neq=>match aEq P 10000 t x y with|some r=>some (.bool !r)|none=>none
  |_=>none
 | .niface,_=>none
 | .iface _ _,_=>none
 | .tuple _,_=>none
 |x,y =>
  match op with
  | .eql=>match aEq P 10000 t x y with|some r=>some (.bool r)|none=>none
  | .neq=>match aEq P 10000 t x y with|some r=>some (.bool !r)|none=>none
  |_=>none
section pure
variable {P:Program} {sn:Z0l} {ι : Z0i} {H:Z00} {W:World}
theorem Z1y{s:Sem Value}{k:IntKind}{n:Int}{w:World}(h:s.run P w = .ok (.int k n) w):∃x,s.run P w = .ok x w/\VR sn ι (.int k n) x:=⟨_,h,Z62 _ _⟩
theorem Z4K{s:Sem Value}{b:Bool}{w:World}(h:s.run P w = .ok (.bool b) w):∃x,s.run P w = .ok x w/\VR sn ι (.bool b) x:=⟨_,h,Zf6 _⟩
theorem Z9s {op : BinOp} {k : IntKind} {a b : Int} {u : AV} (h : Z3y op k a b = some u) (t : TypeId) (w : World) :
  ∃x,(binOp op t (.int k a) (.int k b)).run P w = .ok x w/\VR sn ι u x:=by
 cases op<;>simp only[Z3y]at h
 case quo=>split at h<;>simp at h;subst h;rename_i hb;exact Z1y (by simp[binOp_quo,Op.intDiv,hb])
 case rem=>split at h<;>simp at h;subst h;rename_i hb;exact Z1y (by simp[binOp_rem,Op.intDiv,hb])
 case shl=>simp at h
 case shr=>simp at h
 all_goals
  simp at h;subst h
  first
   |exact Z1y (by simp[binOp_add,binOp_sub,binOp_mul,Op.intArith])
   |exact Z1y (by simp[binOp_and,binOp_or,binOp_xor,binOp_andNot,intBits_and,intBits_or,intBits_xor,intBits_andNot])
   |exact Z4K (by simp[binOp_eql,binOp_neq,binOp_lss,binOp_leq,binOp_gtr,binOp_geq])
theorem Z9r {op : BinOp} {a b : List UInt8} {u : AV} (h : Z7E op a b = some u) (t : TypeId) {x y : ByteArray} (hx : x.data.toList = a) (hy : y.data.toList = b) (w : World) :
  ∃z,(binOp op t (.string x) (.string y)).run P w = .ok z w/\VR sn ι u z:=by
 have e:binOp op t (.string x) (.string y)=Op.stringOp op x y:=by cases op<;>rfl
 rw[e]
 have lx:x.size=a.length:=by rw[<- hx];cases x;rfl
 have ly:y.size=b.length:=by rw[<- hy];cases y;rfl
 subst hx;subst hy
 cases op<;>simp only[Z7E]at h
 case add =>
  split at h<;>simp at h
  subst h;rename_i hl
  refine⟨.string (x++y),?_,Z9A (by simp)⟩
  have:¬(((x.size+y.size:Nat):Int)>IntKind.i64.max):=by simp[IntKind.max,IntKind.bits,IntKind.signed];omega
  simp only[Op.stringOp,this,if_false,Y02]
 all_goals first
  |(simp at h;done)
  |(simp only[Option.some.injEq]at h;subst h;exact Z4K (by simp only[Op.stringOp,ByteArray.toList_eq,Y02]))
theorem Z8x {op : BinOp} {t : TypeId} {x y u : AV} (h : Zbl P op t x y = some u) {x' y' : Value} (hx : VR sn ι x x') (hy : VR sn ι y y') (ox oy : Operand) (w : World) :
  ∃z,(do eqGuard op t ox oy x' y';binOp op t x' y':Sem Value).run P w = .ok z w/\VR sn ι u z:=by
 unfold Zbl at h
 split at h
 case _ k a k' b =>
  cases hx.int;cases hy.int
  have hg:eqGuard op t ox oy (.int k a) (.int k' b)=pure ():=by cases op<;>rfl
  simp only[hg,Y00,Y02,Y01]
  split at h
  · split at h<;>simp at h
    subst h;rename_i hb
    exact Z1y (by simp[binOp_shl,Op.shift,hb])
  · split at h<;>simp at h
    subst h;rename_i hb
    exact Z1y (by simp[binOp_shr,Op.shift,hb])
  · split at h
    ·rename_i hk;subst hk;exact Z9s h t w
    ·simp at h
 case _ a b =>
  obtain⟨ba,rfl,hba⟩:=hx.str;obtain⟨bb,rfl,hbb⟩:=hy.str
  have hg:eqGuard op t ox oy (.string ba) (.string bb)=pure ():=by cases op<;>rfl
  simp only[hg,Y00,Y02,Y01]
  exact Z9r h t hba hbb w
 case _ a b =>
  split at h
  ·simp at h
  rename_i hgt
  obtain⟨dx,rfl,hdx⟩:=hx.agg;obtain⟨dy,rfl,hdy⟩:=hy.agg
  have hgr:(eqGuard op t ox oy (.agg dx) (.agg dy)).run P w = .ok () w:=by
   cases op<;>simp[eqGuard,hgt]
  split at h
  · split at h<;>simp at h
    subst h;rename_i r he
    have hrun:=Z3b 10000 t _ _ r he _ _ hx hy w
    exact Z4K (by simp only[Y00,hgr,Y01,binOp,Op.equal,Op.maxDepth,hrun,Y02])
  · split at h<;>simp at h
    subst h;rename_i r he
    have hrun:=Z3b 10000 t _ _ r he _ _ hx hy w
    exact Z4K (by simp only[Y00,hgr,Y01,binOp,Op.equal,Op.maxDepth,hrun,Y02])
  ·simp at h
 case _=>simp at h
 case _=>simp at h
 case _=>simp at h
 case _ h1 h2 h3 h4 h5 h6 =>
  have fin:∀r,aEq P 10000 t x y=some r->eqGuard op t ox oy x' y'=pure ()/\(binOp .eql t x' y'=(do pure (.bool (<- Op.equal t x' y')):Sem Value))/\(binOp .neq t x' y'=(do pure (.bool (!(<- Op.equal t x' y'))):Sem Value)):=by
   intro r he
   rw[show (10000:Nat)=9999+1 from rfl]at he
   unfold aEq at he
   split at he
   all_goals first
    |(exfalso;first|exact h4 _ _ _ _ rfl rfl|exact h5 _ _ rfl rfl|exact h6 _ _ rfl rfl)
    |(simp at he;done)
    | (simp only [VR] at hx hy
       try (replace hx:=hx.resolve_left (λh0=>absurd h0.1 (Y0o _)))
       try (replace hy:=hy.resolve_left (λh0=>absurd h0.1 (Y0o _)))
       first|(subst hx)|(obtain⟨_,_,rfl⟩:=hx)|(obtain⟨_,_,_,_,rfl,_⟩:=hx)|(obtain⟨_,_,_,rfl,_⟩:=hx)|(obtain⟨_,_,rfl,_⟩:=hx)
       first|(subst hy)|(obtain⟨_,_,rfl⟩:=hy)|(obtain⟨_,_,_,_,rfl,_⟩:=hy)|(obtain⟨_,_,_,rfl,_⟩:=hy)|(obtain⟨_,_,rfl,_⟩:=hy)
       exact⟨by cases op<;>rfl,rfl,rfl⟩)
  split at h
  · split at h<;>simp at h
    subst h;rename_i r he
    obtain⟨f1,f2,f3⟩:=fin r he
    have hrun:=Z3b 10000 t _ _ r he _ _ hx hy w
    exact Z4K (by simp only[Y00,f1,Y02,Y01,f2,Op.equal,Op.maxDepth,hrun])
  · split at h<;>simp at h
    subst h;rename_i r he
    obtain⟨f1,f2,f3⟩:=fin r he
    have hrun:=Z3b 10000 t _ _ r he _ _ hx hy w
    exact Z4K (by simp only[Y00,f1,Y02,Y01,f3,Op.equal,Op.maxDepth,hrun])
  ·simp at h
end pure
end Go.Abs
end
section
namespace Go.Abs
open Go.RowKit
def aUn(op:UnOp)(x:AV):Option AV :=
 match op,x with
 | .neg,.int k n=>some (.int k (k.wrap (0-n)))
 | .xor,.int k n=>some (.int k (bits .xor k (if k.signed then -1 else k.max) n))
 | .not,.bool b=>some (.bool !b)
 |_,_=>none
def Zl2(P:Program)(src dst:TypeId)(x:AV):Option AV :=
 match x with
 | .int _ n=>match P.underlying src,P.underlying dst with
  |some _,some (.int k)=>some (.int k (k.wrap n))
  |_,_=>none
 | .str s=>match P.underlying src,P.underlying dst with
  |some _,some .string=>some (.str s)
  |_,_=>none
 |_=>none
def bnd(x:Option AV)(dflt top:Nat):Option Nat :=
 match x with
 |none=>some dflt
 |some (.int _ i)=>if 0<=i/\i<=(top:Int) then some i.toNat else none
 |_=>none
def Z7A(P:Program)(t:TypeId)(x:AV)(lo hi:Option AV):Option AV :=
 match x with
 | .str s=>match P.underlying t with
  |some .string=>match bnd hi s.length s.length with
   |some h=>match bnd lo 0 h with
    |some l=>some (.str ((s.drop l).take (h-l)))
    |none=>none
   |none=>none
  |_=>none
 | .slice b off len cap z=>match P.underlying t with
  |some (.slice e)=>match tsz P e with
   | some z' => if z' = z then
     match bnd hi len cap with
     |some h=>match bnd lo 0 h with
      |some l=>some (.slice b (off+l*z) (h-l) (cap-l) z)
      |none=>none
     |none=>none
    else none
   |none=>none
  |_=>none
 | .rs n z cs=>match P.underlying t with
  |some (.slice e)=>match tsz P e with
   | some z' => if z' = z then
     match bnd hi n n with
     |some h=>match bnd lo 0 h with
      |some l=>some (.rs (h-l) z ((cs.drop (l*z)).take ((h-l)*z)))
      |none=>none
     |none=>none
    else none
   |none=>none
  |_=>none
 | .nslice=>match P.underlying t with
  |some (.slice e)=>match tsz P e with
   |some _=>match bnd hi 0 0 with
    |some h=>match bnd lo 0 h with
     |some _=>some .nslice
     |none=>none
    |none=>none
   |none=>none
  |_=>none
 |_=>none
def Z7q(P:Program)(s:TypeId)(f:Nat):Option Field :=
 match P.underlying s with
 |some (.struct fs)=>fs[f]?
 |_=>none
def Z5X(P:Program)(s:TypeId)(x:AV)(f:Nat):Option AV :=
 match Z7q P s f with
 |some fd=>match tsz P fd.type with
  |some (_+1)=>match x with
   | .ptr b off=>some (.ptr b (off+fd.offset))
   | .rp cs=>some (.rp (cs.drop fd.offset))
   |_=>none
  |_=>none
 |none=>none
def Zha(P:Program)(s:TypeId)(x:AV)(f:Nat):Option AV :=
 match Z7q P s f with
 |some fd=>match x with
  | .agg cs=>Z5V P fd.type cs fd.offset
  |_=>none
 |none=>none
def Z3a(P:Program)(t:TypeId)(x i:AV):Option AV :=
 match i with
 | .int _ i =>
  match P.underlying t with
  |some (.slice e)=>match tsz P e with
   |some z'=>match x with
    | .slice b off len _ z=>if 0<=i/\i<(len:Int) then (if z'=z then some (.ptr b (off+i.toNat*z)) else none) else none
    | .rs n z cs=>if 0<=i/\i<(n:Int) then (if z'=z then some (.rp (cs.drop (i.toNat*z))) else none) else none
    |_=>none
   |none=>none
  |some (.array n e)=>match tsz P e with
   | some z => if 0 <= i /\ i < (n : Int) then
     match x with
     | .ptr b off=>some (.ptr b (off+i.toNat*z))
     | .rp cs=>some (.rp (cs.drop (i.toNat*z)))
     |_=>none
    else none
   |none=>none
  |_=>none
 |_=>none
def Zb4(P:Program)(t:TypeId)(x i:AV):Option AV :=
 match i with
 | .int _ i =>
  match x with
  | .str s=>match P.underlying t with
   |some .string=>if 0<=i then match s[i.toNat]? with|some b=>some (.int .u8 b.toNat)|none=>none else none
   |_=>none
  | .agg cs=>match P.underlying t with
   |some (.array n e)=>match tsz P e with
    |some z=>if 0<=i/\i<(n:Int) then Z5V P e cs (i.toNat*z) else none
    |none=>none
   |_=>none
  |_=>none
 |_=>none
def ZkY(x:AV):Option AV :=
 match x with
 | .nptr=>none
 | .niface=>none
 | .nfunc=>none
 | .func (.method _) _ _=>none
 |x=>some x
def Z9n(P:Program)(t:TypeId)(x:AV):Option AV:=if P.concrete t then some (.iface t x) else none
def Z9q(x:AV)(i:Nat):Option AV:=match x with | .tuple vs=>vs[i]?|_=>none
def Z7c(H:Z00)(b:Nat):Option (List (AV×AV×Nat)×Nat) :=
 match H[b]? with
 |some o=>match o.alive,o.body with
  |true,.map es clock=>some (es,clock)
  |_,_=>none
 |none=>none
def Znu(P:Program)(t:TypeId)(x:AV)(H:Z00):Option AV :=
 match P.underlying t with
 |some .string=>match x with | .str s=>some (.int .i64 s.length)|_=>none
 |some (.array n _)=>some (.int .i64 n)
 |some (.slice _)=>match x with
  | .nslice=>some (.int .i64 0)
  | .slice _ _ len _ _=>some (.int .i64 len)
  | .rs n _ _=>some (.int .i64 n)
  |_=>none
 |some (.map _ _)=>match x with
  | .nmap=>some (.int .i64 0)
  | .map b=>match Z7c H b with|some (es,_)=>some (.int .i64 es.length)|none=>none
  |_=>none
 |_=>none
def Zl0(x y:AV):Option AV:=match x,y with | .int k a,.int _ b=>some (.int k (if b>a then b else a))|_,_=>none
def ZkZ(x y:AV):Option AV:=match x,y with | .int k a,.int _ b=>some (.int k (if b<a then b else a))|_,_=>none
def ZeP(f:AV->AV->Option AV)(x:AV):List AV->Option AV
 |[]=>some x
 |y::l=>match f x y with|some z=>ZeP f z l|none=>none
def spl:List AV->Nat->List AV->Option (List AV)
 |cs,0,[]=>some cs
 |_::cs,0,v::vs=>match spl cs 0 vs with|some r=>some (v::r)|none=>none
 |[],0,_::_=>none
 |c::cs,n+1,vs=>match spl cs n vs with|some r=>some (c::r)|none=>none
 |[],_+1,_=>none
theorem Z56:∀{cs:List AV}{off:Nat}{vs r:List AV},spl cs off vs=some r->off+vs.length<=cs.length/\r=cs.take off++vs++cs.drop (off+vs.length)
 |cs,0,[],r,h=>by simp[spl]at h;subst h;simp
 |c::cs,0,v::vs,r,h=>by
  simp only[spl]at h;split at h<;>simp at h
  subst h;rename_i e;obtain⟨h1,rfl⟩:=Z56 e
  simp at h1⊢;exact h1
 |[],0,_::_,r,h=>by simp[spl]at h
 |c::cs,n+1,vs,r,h=>by
  simp only[spl]at h;split at h<;>simp at h
  subst h;rename_i e;obtain⟨h1,rfl⟩:=Z56 e
  refine⟨by simp;omega,?_⟩
  rw[show n+1+vs.length=(n+vs.length)+1 from by omega];simp
 |[],n+1,vs,r,h=>by simp[spl]at h
def Z7P(place:Nat->Option (Nat×Nat))(cs:List AV):List (Nat×AV)->Option (List AV)
 |[]=>some cs
 |(i,v)::rest =>
  match place i with
  |none=>none
  | some (off, size) => if v.cells.length = size then
    match spl cs off v.cells with
    |some cs'=>Z7P place cs' rest
    |none=>none
   else none
def Zgm(P:Program)(t:TypeId)(i:Nat):Option (Nat×Nat) :=
 match Z7q P t i with
 |some f=>match tsz P f.type with
  |some n=>some (f.offset,n)
  |none=>none
 |none=>none
def ZdL(P:Program)(t:TypeId):Bool :=
 match P.underlying t with
 |some (.struct fs)=>fs.toList.all λf=>(tsz P f.type).isSome
 |_=>false
def Zhe(P:Program)(t:TypeId)(parts:List (Nat×AV)):Option AV :=
 match Z3C P t with
 |some z =>
  match P.underlying t with
  |some (.struct _)=>if ZdL P t then (match Z7P (Zgm P t) z.cells parts with|some cs=>some (.agg cs)|none=>none) else none
  |some (.array _ e)=>match tsz P e with
   |some n=>match Z7P (λi=>some (i*n,n)) z.cells parts with|some cs=>some (.agg cs)|none=>none
   |none=>none
  |_=>none
 |none=>none
section pure
variable {P:Program} {sn:Z0l} {ι : Z0i} {H:Z00} {W:World}
theorem Zh9{op:UnOp}{x u:AV}(h:aUn op x=some u){x':Value}(hx:VR sn ι x x')(w:World):∃z,(Op.unary op x').run P w = .ok z w/\VR sn ι u z:=by
 unfold aUn at h
 split at h<;>simp at h
 all_goals subst h
 ·cases hx.int;exact Z1y (by simp[Op.unary,Op.intArith])
 ·cases hx.int;exact Z1y (by simp[Op.unary,intBits_xor])
 ·cases hx.bool;exact Z4K (by simp[Op.unary])
theorem Zck{src dst:TypeId}{x u:AV}(h:Zl2 P src dst x=some u){x':Value}(hx:VR sn ι x x')(w:World):∃z,(convert src dst x').run P w = .ok z w/\VR sn ι u z:=by
 unfold Zl2 at h
 split at h
 · split at h<;>simp at h
   subst h;cases hx.int;rename_i h1 h2
   exact Z1y (by simp[convert,run_underlying h1,run_underlying h2,Conv.intToInt])
 · split at h<;>simp at h
   subst h;obtain⟨ba,rfl,hb⟩:=hx.str;rename_i h1 h2
   exact⟨.string ba,by simp[convert,run_underlying h1,run_underlying h2],Z9A hb⟩
 ·simp at h
def OVR(sn:Z0l)(ι : Z0i):Option AV->Option Value->Prop
 |none,v=>v=none
 |some u,v=>∃x,v=some x/\VR sn ι u x
theorem Z5r {x : Option AV} {d top n : Nat} (h : bnd x d top = some n) {x' : Option Value} (hx : OVR sn ι x x') :
  (x'=none/\n=d)\/∃k i,x'=some (.int k i)/\0<=i/\i<=(top:Int)/\n=i.toNat:=by
 unfold bnd at h
 split at h
 ·simp at h;subst h;simp only[OVR]at hx;exact .inl ⟨hx,rfl⟩
 · split at h<;>simp at h
   subst h;simp only[OVR]at hx;obtain⟨v,rfl,hv⟩:=hx;cases hv.int;rename_i hb
   exact .inr ⟨_,_,rfl,hb.1,hb.2,rfl⟩
 ·simp at h
theorem Z0T {isS : Bool} {len cap cap' h l : Nat} {lo hi : Option AV} {lo' hi' : Option Value} (hh : bnd hi len cap = some h) (hl : bnd lo 0 h = some l) (hc : len <= cap) (hc' : cap <= cap')
  (hlo:OVR sn ι lo lo') (hhi:OVR sn ι hi hi') (w:World):l<=h/\h<=cap/\(Instr.sliceBounds isS len cap' lo' hi' none).run P w = .ok (l,h,cap') w:=by
 rcases Z5r hh hhi with ⟨rfl,rfl⟩|⟨k,i,rfl,i0,i1,rfl⟩<;>rcases Z5r hl hlo with ⟨rfl,rfl⟩|⟨k',j,rfl,j0,j1,rfl⟩
 ·exact⟨by omega,by omega,by simp[Instr.sliceBounds]⟩
 ·exact⟨by omega,by omega,by simp[Instr.sliceBounds,Instr.sliceBound,asIntOf,j0,j1]⟩
 · have:i<=(cap':Int):=by omega
   exact⟨by omega,by omega,by simp[Instr.sliceBounds,Instr.sliceBound,asIntOf,i0,this]⟩
 · have:i<=(cap':Int):=by omega
   exact⟨by omega,by omega,by simp only[Instr.sliceBounds,Instr.sliceBound,asIntOf,Y00,Y02,Y01,i0,this,j0,j1,and_self,if_true]⟩
theorem Zb2 {t : TypeId} {x : AV} {lo hi : Option AV} {u : AV} (h : Z7A P t x lo hi = some u) {x' : Value} (hx : VR sn ι x x') {lo' hi' : Option Value} (hlo : OVR sn ι lo lo') (hhi : OVR sn ι hi hi') (w : World) :
  ∃z,(Instr.sliceAt t x' lo' hi' none).run P w = .ok z w/\VR sn ι u z:=by
 unfold Z7A at h
 split at h
 ·
  split at h<;>try (simp at h;done)
  rename_i s _ ht
  split at h<;>try (simp at h;done)
  rename_i n hn
  split at h<;>simp at h
  subst h;rename_i l hl
  obtain⟨ba,rfl,hb⟩:=hx.str
  have hsz:ba.size=s.length:=by rw[<- hb];cases ba;rfl
  obtain⟨h1,h2,h3⟩:=Z0T (P:=P) (isS:=false) hn hl (Y03 _) (Y03 _) hlo hhi w
  refine⟨.string (ba.extract l n),?_,Z9A ?_⟩
  ·simp only[Instr.sliceAt,Instr.slice,Y00,run_underlying ht,Y01,Option.isSome_none,Y0b,if_false,hsz,h3,Y02]
  ·rw[Lib.extract_data,hb]
 ·
  split at h<;>try (simp at h;done)
  rename_i b off len cap z _ e ht
  split at h<;>try (simp at h;done)
  rename_i z' hz
  split at h<;>try (simp at h;done)
  rename_i hzz;subst hzz
  split at h<;>try (simp at h;done)
  rename_i n hn
  split at h<;>simp at h
  subst h;rename_i l hl
  obtain⟨p,a,cap',hp,rfl,hlc,hcc,hne⟩:=hx.slice
  obtain⟨h1,h2,h3⟩:=Z0T (P:=P) (isS:=true) hn hl hlc hcc hlo hhi w
  refine⟨.slice (if cap'=l then some a else (some a).map (·.add (l*z'))) (n-l) (cap'-l),?_,?_⟩
  ·simp only[Instr.sliceAt,Instr.slice,Y00,run_underlying ht,Y01,h3,Z0D hz,Y02]
  · simp only[VR]
    by_cases hcl:cap'=l
    ·exact⟨p,a,cap'-l,hp,by simp[hcl],by omega,by omega,by omega⟩
    · refine⟨p,a.add (l*z'),cap'-l,hp,by simp[hcl],by omega,by omega,λ_=>?_⟩
      obtain⟨rfl,hb⟩:=hne (by omega)
      refine⟨by rw[Z0I,Y0d],?_⟩
      have:l*z'+(cap'-l)*z'=cap'*z':=by rw[<- Y05];congr 1;omega
      omega
 ·
  split at h<;>try (simp at h;done)
  rename_i n0 z cs _ e ht
  split at h<;>try (simp at h;done)
  rename_i z' hz
  split at h<;>try (simp at h;done)
  rename_i hzz;subst hzz
  split at h<;>try (simp at h;done)
  rename_i n hn
  split at h<;>simp at h
  subst h;rename_i l hl
  rcases hx.rs with ⟨rfl,rfl,rfl⟩|⟨a,cap,rfl,hc,hcs,hm,hsp⟩
  · obtain⟨h1,h2,h3⟩:=Z0T (P:=P) (isS:=true) hn hl (Y03 _) (Y03 _) hlo hhi w
    have hn0:n=0:=by omega
    have hl0:l=0:=by omega
    subst hn0;subst hl0
    refine⟨.slice none 0 0,?_,by simp[VR]⟩
    simp only[Instr.sliceAt,Instr.slice,Y00,run_underlying ht,Y01,h3,Z0D hz,Y02]
    simp
  obtain⟨h1,h2,h3⟩:=Z0T (P:=P) (isS:=true) hn hl (Y03 _) hc hlo hhi w
  refine⟨.slice (if cap=l then some a else (some a).map (·.add (l*z'))) (n-l) (cap-l),?_,?_⟩
  ·simp only[Instr.sliceAt,Instr.slice,Y00,run_underlying ht,Y01,h3,Z0D hz,Y02]
  · have hlen : ((cs.drop (l * z')).take ((n - l) * z')).length = (n - l) * z' := by
     simp only[Y0t,List.length_drop,hcs]
     have:(n-l)*z'+l*z'<=n0*z':=by rw[<- Y05];exact Y0f _ (by omega)
     omega
    simp only[VR]
    right
    by_cases hcl:cap=l
    · have h0:n-l=0:=by omega
      refine⟨a,cap-l,by simp[hcl],by omega,hlen,by simp[h0,MR],λhne=>absurd h0 hne⟩
    · have hb:(a.add (l*z')).block=a.block:=by unfold Addr.add;split<;>rfl
      have ho:(a.add (l*z')).off=a.off+l*z':=by unfold Addr.add;split<;>simp_all
      have hs:a.spot=none->(a.add (l*z')).spot=none:=λh=>by unfold Addr.add;split<;>simp_all
      exact⟨a.add (l*z'),cap-l,by simp[hcl],by omega,hlen,by rw[hb,ho];exact (hm.drop _).take _,λhne=>hs (hsp (by omega))⟩
 ·
  split at h<;>try (simp at h;done)
  rename_i e ht
  split at h<;>try (simp at h;done)
  rename_i z hz
  split at h<;>try (simp at h;done)
  rename_i n hn
  split at h<;>simp at h
  subst h;rename_i l hl
  cases hx.nslice
  obtain⟨h1,h2,h3⟩:=Z0T (P:=P) (isS:=true) hn hl (Y03 _) (Y03 _) hlo hhi w
  have h2:n=0:=by omega
  have h1:l=0:=by omega
  subst h1;subst h2
  exact⟨.slice none 0 0,by simp[Instr.sliceAt,Instr.slice,run_underlying ht,h3,Z0D hz],by simp[VR]⟩
 ·simp at h
theorem Z3W{s:TypeId}{f:Nat}{fd:Field}(h:Z7q P s f=some fd):∃fs,P.underlying s=some (.struct fs)/\fs[f]? = some fd:=by
 unfold Z7q at h
 split at h
 ·exact⟨_,by assumption,h⟩
 ·simp at h
theorem Z6t {s : TypeId} {x : AV} {f : Nat} {u : AV} (h : Z5X P s x f = some u) {x' : Value} (hx : VR sn ι x x') (w : World) :
  ∃z,(Instr.fieldAt s x' f).run P w = .ok z w/\VR sn ι u z:=by
 unfold Z5X at h
 split at h<;>try (simp at h;done)
 rename_i fd hfd
 obtain⟨fs,hs,hf⟩:=Z3W hfd
 split at h<;>try (simp at h;done)
 rename_i n hn
 split at h<;>simp at h
 · subst h;obtain⟨p,hp,rfl⟩:=hx.ptr
   refine⟨.pointer (some ⟨p.blk,p.sh+(_+fd.offset),none⟩),?_,by simp only[VR];exact⟨p,hp,rfl⟩⟩
   simp only[Instr.fieldAt,Y00,run_underlying hs,Y01,hf,Instr.sureAddr,Y02,fieldPlace,Z0D hn,Z0I,Y0d]
   simp[Z0I,Y0d]
 · subst h;obtain⟨b,o,rfl,hm⟩:=hx.rp
   refine⟨.pointer (some ⟨b,o+fd.offset,none⟩),?_,by simp only[VR];exact⟨b,_,rfl,hm.drop _⟩⟩
   simp only[Instr.fieldAt,Y00,run_underlying hs,Y01,hf,Instr.sureAddr,Y02,fieldPlace,Z0D hn,Z0I]
   simp[Z0I]
theorem Zb5 {s : TypeId} {x : AV} {f : Nat} {u : AV} (h : Zha P s x f = some u) {x' : Value} (hx : VR sn ι x x') (w : World) :
  ∃z,(Instr.field s x' f).run P w = .ok z w/\VR sn ι u z:=by
 unfold Zha at h
 split at h<;>try (simp at h;done)
 rename_i fd hfd
 obtain⟨fs,hs,hf⟩:=Z3W hfd
 split at h<;>try (simp at h;done)
 obtain⟨d,rfl,hd⟩:=hx.agg
 obtain⟨z,h1,h2⟩:=Z4b h hd w
 exact⟨z,by simp only[Instr.field,Y00,run_underlying hs,Y01,hf,asAgg,Y02,h1],h2⟩
theorem Z6s {t : TypeId} {x i u : AV} (h : Z3a P t x i = some u) {x' i' : Value} (hx : VR sn ι x x') (hi : VR sn ι i i') (w : World) :
  ∃z,(Instr.indexAt t x' i').run P w = .ok z w/\VR sn ι u z:=by
 unfold Z3a at h
 split at h<;>try (simp at h;done)
 cases hi.int
 split at h
 · rename_i e ht
   split at h<;>try (simp at h;done)
   rename_i z' hz
   split at h
   · split at h<;>try (simp at h;done)
     rename_i hb
     split at h<;>simp at h
     subst h;rename_i hzz;subst hzz
     obtain⟨p,a,cap',hp,rfl,hlc,hcc,hne⟩:=hx.slice
     obtain⟨rfl,hbb⟩:=hne (by omega)
     refine⟨.pointer (some ⟨p.blk,p.sh+(_+_),none⟩),?_,by simp only[VR];exact⟨p,hp,rfl⟩⟩
     simp[Instr.indexAt,asIntOf,run_underlying ht,hb,Z0D hz,Z0I,Y0d]
   · split at h<;>try (simp at h;done)
     rename_i hb
     split at h<;>simp at h
     subst h;rename_i hzz;subst hzz
     rcases hx.rs with ⟨rfl,_,_⟩|⟨⟨b,o,sp⟩,cap,rfl,hc,hcs,hm,hsp⟩
     ·omega
     have hsp0:sp=none:=hsp (by omega)
     subst hsp0
     refine⟨.pointer (some ⟨b,o+_,none⟩),?_,by simp only[VR];exact⟨b,_,rfl,hm.drop _⟩⟩
     simp[Instr.indexAt,asIntOf,run_underlying ht,hb,Z0D hz,Z0I]
   ·simp at h
 · rename_i n e ht
   split at h<;>try (simp at h;done)
   rename_i z hz
   split at h<;>try (simp at h;done)
   rename_i hb
   split at h<;>simp at h
   · subst h;obtain⟨p,hp,rfl⟩:=hx.ptr
     refine⟨.pointer (some ⟨p.blk,p.sh+(_+_),none⟩),?_,by simp only[VR];exact⟨p,hp,rfl⟩⟩
     simp[Instr.indexAt,asIntOf,run_underlying ht,hb,Z0D hz,Z0I,Y0d,Instr.sureAddr]
   · subst h;obtain⟨b,o,rfl,hm⟩:=hx.rp
     refine⟨.pointer (some ⟨b,o+_,none⟩),?_,by simp only[VR];exact⟨b,_,rfl,hm.drop _⟩⟩
     simp[Instr.indexAt,asIntOf,run_underlying ht,hb,Z0D hz,Z0I,Instr.sureAddr]
 ·simp at h
theorem Zb3 {t : TypeId} {x i u : AV} (h : Zb4 P t x i = some u) {x' i' : Value} (hx : VR sn ι x x') (hi : VR sn ι i i') (w : World) :
  ∃z,(Instr.index t x' i').run P w = .ok z w/\VR sn ι u z:=by
 unfold Zb4 at h
 split at h<;>try (simp at h;done)
 cases hi.int
 split at h
 · split at h<;>try (simp at h;done)
   rename_i ht
   split at h<;>try (simp at h;done)
   rename_i h0
   split at h<;>simp at h
   subst h;rename_i b hb
   obtain⟨ba,rfl,hba⟩:=hx.str
   subst hba
   refine Z1y ?_
   rename_i i _ _ _
   have:ba[i.toNat]? = some b:=by rw[<- hb];simp[Y08];rfl
   simp[Instr.index,asIntOf,run_underlying ht,h0,this]
 · split at h<;>try (simp at h;done)
   rename_i n e ht
   split at h<;>try (simp at h;done)
   rename_i z hz
   split at h<;>try (simp at h;done)
   rename_i hb
   obtain⟨d,rfl,hd⟩:=hx.agg
   obtain⟨y,h1,h2⟩:=Z4b h hd w
   exact⟨y,by simp[Instr.index,asIntOf,run_underlying ht,hb,Z0D hz,h1],h2⟩
 ·simp at h
end pure
end Go.Abs
end
section
namespace Go.Abs
open Go.RowKit
section pure
variable {P:Program} {sn:Z0l} {ι : Z0i} {H:Z00} {W:World}
theorem Zbd{sn:Z0l}{ι : Z0i}:∀{es:List (AV×AV×Nat)}{l:List MapEntry},ER sn ι es l->l.length=es.length
 |[],l,h=>by simp[ER]at h;simp[h]
 |(k,v,n)::es,l,h=>by simp only[ER]at h;obtain⟨e,l',rfl,_,_,_,h⟩:=h;simp[Zbd h]
theorem Z69 (hR : RO sn ι H W) {b : Nat} {es : List (AV × AV × Nat)} {clock : Nat} (h : Z7c H b = some (es, clock)) :
  ∃o p mes,H[b]? = some o/\o.alive=true/\o.body = .map es clock /\ ι b=some p/\W.heap[p.blk]? = some (.map mes clock)/\ER sn ι es mes.toList:=by
 unfold Z7c at h
 split at h<;>try (simp at h;done)
 rename_i o ho
 split at h<;>simp at h
 rename_i es' c' hal hbd
 obtain⟨rfl,rfl⟩:=h
 obtain⟨p,hp⟩:=hR.place ho
 have:=hR.obj b o p ho hal hp
 rw[hbd]at this;simp only[OR]at this
 obtain⟨mes,h1,h2⟩:=this
 exact⟨o,p,mes,ho,hal,hbd,hp,h1,h2⟩
theorem ZeO (hR : RO sn ι H W) {t : TypeId} {x u : AV} (h : Znu P t x H = some u) {x' : Value} (hx : VR sn ι x x') (ts : Array TypeId) (hts : ts[0]? = some t) (ty : TypeId) :
  ∃z,(Builtin.len_ ts ty #[x']).run P W = .ok z W/\VR sn ι u z:=by
 have e0:(#[x']:Array Value)[0]? = some x':=rfl
 unfold Znu at h
 split at h
 · rename_i ht
   split at h<;>simp at h
   subst h;obtain⟨ba,rfl,rfl⟩:=hx.str
   have hsz:ba.data.toList.length=ba.size:=by cases ba;rfl
   rw[hsz]
   exact Z1y (by simp[Builtin.len_,hts,run_underlying ht,goInt])
 · rename_i ht
   simp at h;subst h
   exact Z1y (by simp[Builtin.len_,hts,run_underlying ht,goInt])
 · rename_i ht
   split at h<;>simp at h
   ·subst h;cases hx.nslice;exact Z1y (by simp[Builtin.len_,hts,run_underlying ht,goInt])
   ·subst h;obtain⟨p,a,c,_,rfl,_⟩:=hx.slice;exact Z1y (by simp[Builtin.len_,hts,run_underlying ht,goInt])
   ·subst h;rcases hx.rs with ⟨rfl,_,rfl⟩|⟨a,c,rfl,_⟩<;>exact Z1y (by simp[Builtin.len_,hts,run_underlying ht,goInt])
 · rename_i ht
   split at h<;>try (simp at h;done)
   ·simp at h;subst h;cases hx.nmap;exact Z1y (by simp[Builtin.len_,hts,run_underlying ht,goInt])
   · split at h<;>simp at h
     subst h;rename_i hm
     obtain⟨o,p,mes,_,_,_,hp,hw,he⟩:=Z69 hR hm
     obtain⟨q,hq,rfl⟩:=hx.map
     rw[hp]at hq;simp at hq;subst hq
     have hl:=Zbd he
     refine Z1y ?_
     simp at hl
     simp[Builtin.len_,hts,run_underlying ht,goInt,getObj,Sem.run,hw,hl]
 ·simp at h
theorem ZeN {x u : AV} (h : ZkY x = some u) {x' : Value} (hx : VR sn ι x x') (o : Oper) (y : Operand) (ho : o.op = .nilCheck y) (ρ : Operand -> Value) (hy : ρ y = x') (w : World) :
  (execOp ρ o).run P w = .ok (.value x') w/\VR sn ι u x':=by
 have hu:u=x:=by unfold ZkY at h;split at h<;>simp at h<;>exact h.symm
 refine⟨?_,by rw[hu];exact hx⟩
 subst hy
 cases hxx : ρ y with
 |pointer a =>
  cases a with
  |none=>rw[hxx]at hx;cases x<;>simp[VR]at hx;simp[ZkY]at h
  |some a=>simp[execOp,ho,hxx]
 |nilIface=>rw[hxx]at hx;cases x<;>simp[VR]at hx;simp[ZkY]at h
 |nilFunc=>rw[hxx]at hx;cases x<;>simp[VR]at hx;simp[ZkY]at h
 |func fn f c =>
  cases fn with
  |method m =>
   rw[hxx]at hx;cases x<;>simp[VR]at hx
   obtain⟨_,_,⟨rfl,_⟩,_⟩:=hx
   simp[ZkY]at h
  |_=>simp[execOp,ho,hxx]
 |_=>simp[execOp,ho,hxx]
theorem Z7O{t:TypeId}{x u:AV}(h:Z9n P t x=some u){x':Value}(hx:VR sn ι x x')(w:World):∃z,(Instr.makeInterface t x').run P w = .ok z w/\VR sn ι u z:=by
 unfold Z9n at h;split at h<;>simp at h
 subst h;rename_i hc
 exact⟨.iface t x',run_makeInterface w t x' hc,by simp only[VR];exact⟨x',rfl,hx⟩⟩
theorem Z7Q{x u:AV}{i:Nat}(h:Z9q x i=some u){x':Value}(hx:VR sn ι x x')(w:World):∃z,(Instr.extract x' i).run P w = .ok z w/\VR sn ι u z:=by
 unfold Z9q at h;split at h<;>try (simp at h;done)
 obtain⟨d,rfl,hd⟩:=hx.tuple
 obtain⟨v,h1,h2⟩:=hd.get h
 rw[Y08]at h1
 exact⟨v,by simp[Instr.extract,h1],h2⟩
theorem Zci{x y u:AV}(h:Zl0 x y=some u){x' y':Value}(hx:VR sn ι x x')(hy:VR sn ι y y')(w:World):∃z,(Builtin.max2 x' y').run P w = .ok z w/\VR sn ι u z:=by
 unfold Zl0 at h;split at h<;>simp at h
 subst h;cases hx.int;cases hy.int;exact Z1y (by simp[Builtin.max2])
theorem Zch{x y u:AV}(h:ZkZ x y=some u){x' y':Value}(hx:VR sn ι x x')(hy:VR sn ι y y')(w:World):∃z,(Builtin.min2 x' y').run P w = .ok z w/\VR sn ι u z:=by
 unfold ZkZ at h;split at h<;>simp at h
 subst h;cases hx.int;cases hy.int;exact Z1y (by simp[Builtin.min2])
theorem Z4P {f : AV -> AV -> Option AV} {g : Value -> Value -> Sem Value} (hfg : ∀ x y u, f x y = some u -> ∀ x' y', VR sn ι x x' -> VR sn ι y y' -> ∀ w, ∃ z, (g x' y').run P w = .ok z w /\ VR sn ι u z) :
  ∀(l:List AV)(x u:AV),ZeP f x l=some u->∀(x':Value)(l':List Value),VR sn ι x x'->LR sn ι l l'->∀w,∃z,(l'.foldlM g x').run P w = .ok z w/\VR sn ι u z
 |[],x,u,h,x',l',hx,hl,w=>by simp[ZeP]at h;subst h;simp[LR]at hl;subst hl;exact⟨x',by simp,hx⟩
 |y::l,x,u,h,x',l',hx,hl,w=>by
  simp only[ZeP]at h;split at h<;>try (simp at h;done)
  rename_i z hz
  simp only[LR]at hl;obtain⟨d,ds,rfl,hd,hl⟩:=hl
  obtain⟨z',h1,h2⟩:=hfg _ _ _ hz x' d hx hd w
  obtain⟨r,h3,h4⟩:=Z4P hfg l z u h z' ds h2 hl w
  exact⟨r,by simp only[List.foldlM_cons,Y00,h1,Y01,h3],h4⟩
def PR(sn:Z0l)(ι : Z0i):List (Nat×AV)->List (Nat×Value)->Prop
 |[],l=>l=[]
 |(i,u)::us,l=>∃v l',l=(i,v)::l'/\VR sn ι u v/\PR sn ι us l'
theorem Zgn (vs : List Value) : ∀ (off j : Nat) (cs : Array Value), off + j + vs.length <= cs.size ->
  ((vs.zipIdx j).foldl (λ(cs:Array Value) (x:Value×Nat)=>cs.setIfInBounds (off+x.2) x.1) cs).toList=cs.toList.take (off+j)++vs++cs.toList.drop (off+j+vs.length):=by
 induction vs with
 |nil=>intro off j cs h;simp
 |cons v vs ih =>
  intro off j cs h
  simp only[List.zipIdx_cons,List.foldl_cons]
  rw[ih off (j+1) _ (by simp at h⊢;omega)]
  have e:=list_seg_step cs.toList (off+j) v vs (by simp at h⊢;omega)
  simpa[Array.toList_setIfInBounds,Y0d]using e
theorem Z3x {pl : Nat -> Option (Nat × Nat)} {pl' : Nat -> Option (Nat × Nat)} (hpl : ∀ i p, pl i = some p -> pl' i = some p) :
  ∀(ps:List (Nat×AV))(cs:List AV)(r:List AV),Z7P pl cs ps=some r->∀(ps':List (Nat×Value))(cs':Array Value),PR sn ι ps ps'->LR sn ι cs cs'.toList ->
   ∃r',Instr.fill pl' cs' ps'=some r'/\LR sn ι r r'.toList
 |[],cs,r,h,ps',cs',hp,hc=>by simp[Z7P]at h;subst h;simp[PR]at hp;subst hp;exact⟨cs',rfl,hc⟩
 |(i,u)::ps,cs,r,h,ps',cs',hp,hc=>by
  simp only[Z7P]at h
  split at h<;>try (simp at h;done)
  rename_i off size hi
  split at h<;>try (simp at h;done)
  rename_i hsz
  split at h<;>try (simp at h;done)
  rename_i cs1 hspl
  simp only[PR]at hp;obtain⟨v,l',rfl,hv,hp⟩:=hp
  obtain⟨h1,rfl⟩:=Z56 hspl
  have hvc:=hv.cells
  have hvl:v.cells.toList.length=u.cells.length:=hvc.length
  have hcl:cs'.toList.length=cs.length:=hc.length
  simp only[Array.length_toList]at hvl hcl
  have hz:=Zgn v.cells.toList off 0 cs' (by simp;omega)
  have hcond:(v.cells.size≠size || off+v.cells.size>cs'.size)=false:=by simp;omega
  have hfold:v.cells.zipIdx.foldl (λ(cs:Array Value) (x:Value×Nat)=>cs.setIfInBounds (off+x.2) x.1) cs'=(v.cells.toList.zipIdx).foldl (λ(cs:Array Value) (x:Value×Nat)=>cs.setIfInBounds (off+x.2) x.1) cs':=by
   rw[<- Array.foldl_toList];simp
  have hlr:LR sn ι (cs.take off++u.cells++cs.drop (off+u.cells.length)) (v.cells.zipIdx.foldl (λ(cs:Array Value) (x:Value×Nat)=>cs.setIfInBounds (off+x.2) x.1) cs').toList:=by
   rw[hfold,hz]
   simp only[Y0n]
   have:v.cells.toList.length=u.cells.length:=hvc.length
   rw[this]
   exact ((hc.take _).append hvc).append (hc.drop _)
  obtain⟨r',h3,h4⟩:=Z3x hpl ps _ r h l' _ hp hlr
  refine⟨r',?_,h4⟩
  simp only[Instr.fill,hpl _ _ hi,hcond,Y0b,if_false]
  exact h3
theorem Z3N (w : World) : ∀ (l : List Field) , (l.all fun f => (tsz P f.type).isSome) = true ->
  (l.mapM λf=>(do pure (f.offset,<- sizeOf f.type):Sem (Nat×Nat))).run P w = .ok (l.map λf=>(f.offset,(tsz P f.type).getD 0)) w
 |[],_=>by simp
 |f::l,h=>by
  simp only[List.all_cons,Y0u]at h
  obtain⟨n,hn⟩:=Option.isSome_iff_exists.1 h.1
  simp only[List.mapM_cons,Y00,Z0D hn,Y01,Y02,Z3N w l h.2,Y09,hn,Option.getD_some]
theorem Zba {t : TypeId} {ps : List (Nat × AV)} {u : AV} (h : Zhe P t ps = some u) {ps' : Array (Nat × Value)} (hp : PR sn ι ps ps'.toList) (w : World) :
  ∃z,(Instr.build t ps').run P w = .ok z w/\VR sn ι u z:=by
 unfold Zhe at h
 split at h<;>try (simp at h;done)
 rename_i z hz
 obtain⟨z',h1,h2⟩:=Z2P hz
 have hzc:=(h2 sn ι).cells
 split at h
 · rename_i fs ht
   split at h<;>try (simp at h;done)
   rename_i hall
   split at h<;>simp at h
   subst h;rename_i cs hcs
   simp only[ZdL,ht]at hall
   have hmap:(fs.mapM λf=>(do pure (f.offset,<- sizeOf f.type):Sem (Nat×Nat))).run P w = .ok (fs.map λf=>(f.offset,(tsz P f.type).getD 0)) w:=by
    rw[Array.mapM_eq_mapM_toList,show (Functor.map List.toArray (fs.toList.mapM λf=>(do pure (f.offset,<- sizeOf f.type):Sem (Nat×Nat))))=(do pure (<- fs.toList.mapM λf=>(do pure (f.offset,<- sizeOf f.type):Sem (Nat×Nat))).toArray:Sem _) from rfl]
    simp only[Y00,Z3N w fs.toList hall,Y01,Y02]
    congr 1;apply Array.ext';simp
   have hpl:∀i p,Zgm P t i=some p->(fs.map λf=>(f.offset,(tsz P f.type).getD 0))[i]? = some p:=by
    intro i p hip
    unfold Zgm at hip
    split at hip<;>try (simp at hip;done)
    rename_i f hf
    obtain⟨fs',hs,hfi⟩:=Z3W hf
    rw[ht]at hs;simp at hs;subst hs
    split at hip<;>simp at hip
    subst hip;rename_i n hn
    simp[hfi,hn]
   obtain⟨r',h3,h4⟩:=Z3x hpl ps _ cs hcs ps'.toList _ hp hzc
   refine⟨.agg r',?_,Z4t h4⟩
   simp only[Instr.build,Y00,h1,Y01,run_underlying ht,hmap]
   rw[h3];simp
 · rename_i n e ht
   split at h<;>try (simp at h;done)
   rename_i sz hsz
   split at h<;>simp at h
   subst h;rename_i cs hcs
   obtain⟨r',h3,h4⟩:=Z3x (λi p h=>h) ps _ cs hcs ps'.toList _ hp hzc
   refine⟨.agg r',?_,Z4t h4⟩
   simp only[Instr.build,Y00,h1,Y01,run_underlying ht,Z0D hsz]
   rw[h3];simp
 ·simp at h
end pure
abbrev Z0w:=Nat->Option (List AV)
def Z40(ρ : Operand->Option AV):List Operand->Option (List AV)
 |[]=>some []
 |x::l=>match ρ x,Z40 ρ l with|some u,some us=>some (u::us)|_,_=>none
def Z7y(ρ : Operand->Option AV):List (Nat×Operand)->Option (List (Nat×AV))
 |[]=>some []
 |(i,x)::l=>match ρ x,Z7y ρ l with|some u,some us=>some ((i,u)::us)|_,_=>none
def ZeZ(ρ : Operand->Option AV):Option Operand->Option (Option AV)
 |none=>some none
 |some x=>match ρ x with|some u=>some (some u)|none=>none
section ev
variable {sn:Z0l} {ι : Z0i} {ρ : Operand->Option AV} {ρ':Operand->Value}
theorem Z0F(h:∀x u,ρ x=some u->VR sn ι u (ρ' x)):∀(l:List Operand)(us:List AV),Z40 ρ l=some us->LR sn ι us (l.map ρ')
 |[],us,e=>by simp[Z40]at e;subst e;simp[LR]
 |x::l,us,e=>by
  simp only[Z40]at e;split at e<;>simp at e
  subst e;rename_i h1 h2
  simp only[Y09,LR];exact⟨_,_,rfl,h _ _ h1,Z0F h l _ h2⟩
theorem Z2C(h:∀x u,ρ x=some u->VR sn ι u (ρ' x)):∀(l:List (Nat×Operand))(us:List (Nat×AV)),Z7y ρ l=some us->PR sn ι us (l.map λ(i,x)=>(i,ρ' x))
 |[],us,e=>by simp[Z7y]at e;subst e;simp[PR]
 |(i,x)::l,us,e=>by
  simp only[Z7y]at e;split at e<;>simp at e
  subst e;rename_i h1 h2
  simp only[Y09,PR];exact⟨_,_,rfl,h _ _ h1,Z2C h l _ h2⟩
theorem Z38(h:∀x u,ρ x=some u->VR sn ι u (ρ' x))(x:Option Operand)(u:Option AV)(e:ZeZ ρ x=some u):OVR sn ι u (x.map ρ'):=by
 cases x with
 |none=>simp[ZeZ]at e;subst e;simp[OVR]
 |some x=>simp only[ZeZ]at e;split at e<;>simp at e;subst e;rename_i h1;simp only[OVR];exact⟨_,rfl,h _ _ h1⟩
end ev
def Z2q(P:Program)(ρ : Operand->Option AV)(H:Z00)(o:Oper):Option AV :=
 match o.op with
 | .move x=>ρ x
 | .assign x=>ρ x
 | .pick c a b=>match ρ c with|some (.bool true)=>ρ a|some (.bool false)=>ρ b|_=>none
 | .build t ps=>match Z7y ρ ps.toList with|some us=>Zhe P t us|none=>none
 | .load t a=>match ρ a with|some a=>Z9f P t a H|none=>none
 | .nilCheck x=>match ρ x with|some x=>ZkY x|none=>none
 | .binOp op t x y _=>match ρ x,ρ y with|some a,some b=>Zbl P op t a b|_,_=>none
 | .unOp op _ x=>match ρ x with|some a=>aUn op a|none=>none
 | .convert s d x=>match ρ x with|some a=>Zl2 P s d a|none=>none
 | .makeInterface t x=>match ρ x with|some a=>Z9n P t a|none=>none
 | .makeFunc fn f c=>match Z40 ρ f.toList,Z40 ρ c.toList with|some f,some c=>some (.func fn f c)|_,_=>none
 | .slice t x lo hi none=>match ρ x,ZeZ ρ lo,ZeZ ρ hi with|some x,some lo,some hi=>Z7A P t x lo hi|_,_,_=>none
 | .fieldAddr s x f=>match ρ x with|some a=>Z5X P s a f|none=>none
 | .field s x f=>match ρ x with|some a=>Zha P s a f|none=>none
 | .indexAddr t x i=>match ρ x,ρ i with|some a,some i=>Z3a P t a i|_,_=>none
 | .index t x i=>match ρ x,ρ i with|some a,some i=>Zb4 P t a i|_,_=>none
 | .extract t i=>match ρ t with|some a=>Z9q a i|none=>none
 | .call c=>match c.callee with
  | .builtin .len=>match c.args.toList,c.argTypes.toList with|[x],t::_=>(match ρ x with|some a=>Znu P t a H|none=>none)|_,_=>none
  | .builtin .max=>match Z40 ρ c.args.toList with|some (a::l)=>ZeP Zl0 a l|_=>none
  | .builtin .min=>match Z40 ρ c.args.toList with|some (a::l)=>ZeP ZkZ a l|_=>none
  |_=>none
 |_=>none
theorem Z7x {P : Program} {sn : Z0l} {ι : Z0i} {H : Z00} {W : World} (hR : RO sn ι H W) {ρ : Operand -> Option AV} {ρ' : Operand -> Value} (hρ : ∀ x u, ρ x = some u -> VR sn ι u (ρ' x))
  {o:Oper} {r:AV} (h:Z2q P ρ H o=some r):∃v,(execOp ρ' o).run P W = .ok (.value v) W/\VR sn ι r v:=by
 have wrap:∀(s:Sem Value),execOp ρ' o=(do pure (.value (<- s)):Sem Next)->(∃z,s.run P W = .ok z W/\VR sn ι r z)->∃v,(execOp ρ' o).run P W = .ok (.value v) W/\VR sn ι r v:=by
  rintro s e ⟨z,h1,h2⟩
  exact⟨z,by rw[e];simp only[Y00,h1,Y01,Y02],h2⟩
 unfold Z2q at h
 cases hop:o.op with
 |move x=>simp only[hop]at h;exact⟨ρ' x,by simp[execOp,hop],hρ x r h⟩
 |assign x=>simp only[hop]at h;exact⟨ρ' x,by simp[execOp,hop],hρ x r h⟩
 |pick c a b =>
  simp only[hop]at h
  split at h<;>try (simp at h;done)
  all_goals
   rename_i hc
   have:=(hρ _ _ hc).bool
   exact⟨_,by simp[execOp,hop,this,asBool],hρ _ r h⟩
 |build t ps =>
  simp only[hop]at h;split at h<;>try (simp at h;done)
  rename_i us hus
  exact wrap (Instr.build t (ps.map λ(i,x)=>(i,ρ' x))) (by simp only[execOp,hop]) (Zba h (by rw[Y0c];exact Z2C hρ _ _ hus) W)
 |load t a =>
  simp only[hop]at h;split at h<;>try (simp at h;done)
  rename_i u hu
  exact wrap _ (by simp only[execOp,hop]) (Zeq hR h (hρ _ _ hu))
 |nilCheck x =>
  simp only[hop]at h;split at h<;>try (simp at h;done)
  rename_i u hu
  obtain⟨h1,h2⟩:=ZeN (P:=P) h (hρ _ _ hu) o x hop ρ' rfl W
  exact⟨_,h1,h2⟩
 |binOp op t x y yt =>
  simp only[hop]at h;split at h<;>try (simp at h;done)
  rename_i a b ha hb
  exact wrap _ (by simp only[execOp,hop]) (Z8x h (hρ _ _ ha) (hρ _ _ hb) x y W)
 |unOp op t x =>
  simp only[hop]at h;split at h<;>try (simp at h;done)
  rename_i u hu
  exact wrap _ (by simp only[execOp,hop]) (Zh9 h (hρ _ _ hu) W)
 |convert s d x =>
  simp only[hop]at h;split at h<;>try (simp at h;done)
  rename_i u hu
  exact wrap _ (by simp only[execOp,hop]) (Zck h (hρ _ _ hu) W)
 |makeInterface t x =>
  simp only[hop]at h;split at h<;>try (simp at h;done)
  rename_i u hu
  exact wrap _ (by simp only[execOp,hop]) (Z7O h (hρ _ _ hu) W)
 |makeFunc fn f c =>
  simp only[hop]at h;split at h<;>try (simp at h;done)
  rename_i f' c' hf hc
  simp at h;subst h
  refine⟨.func fn (f.map ρ') (c.map ρ'),by simp[execOp,hop,Instr.makeFunc],?_⟩
  simp only[VR]
  exact⟨_,_,rfl,by rw[Y0c];exact Z0F hρ _ _ hf,by rw[Y0c];exact Z0F hρ _ _ hc⟩
 |slice t x lo hi mx =>
  cases mx with
  |some m=>simp[hop]at h
  |none =>
   simp only[hop]at h;split at h<;>try (simp at h;done)
   rename_i a lo' hi' hx hlo hhi
   exact wrap _ (by simp only[execOp,hop,Option.map_none]) (Zb2 h (hρ _ _ hx) (Z38 hρ _ _ hlo) (Z38 hρ _ _ hhi) W)
 |fieldAddr s x f =>
  simp only[hop]at h;split at h<;>try (simp at h;done)
  rename_i u hu
  exact wrap _ (by simp only[execOp,hop]) (Z6t h (hρ _ _ hu) W)
 |field s x f =>
  simp only[hop]at h;split at h<;>try (simp at h;done)
  rename_i u hu
  exact wrap _ (by simp only[execOp,hop]) (Zb5 h (hρ _ _ hu) W)
 |indexAddr t x i =>
  simp only[hop]at h;split at h<;>try (simp at h;done)
  rename_i a b ha hb
  exact wrap _ (by simp only[execOp,hop]) (Z6s h (hρ _ _ ha) (hρ _ _ hb) W)
 |index t x i =>
  simp only[hop]at h;split at h<;>try (simp at h;done)
  rename_i a b ha hb
  exact wrap _ (by simp only[execOp,hop]) (Zb3 h (hρ _ _ ha) (hρ _ _ hb) W)
 |extract t i =>
  simp only[hop]at h;split at h<;>try (simp at h;done)
  rename_i u hu
  exact wrap _ (by simp only[execOp,hop]) (Z7Q h (hρ _ _ hu) W)
 |call c =>
  simp only[hop]at h
  split at h<;>try (simp at h;done)
  · rename_i hc
    split at h<;>try (simp at h;done)
    rename_i x t ts hx ht
    split at h<;>try (simp at h;done)
    rename_i u hu
    have hx':c.args = #[x]:=by apply Array.ext';simpa using hx
    have ht':c.argTypes[0]? = some t:=by rw[<- Y08,ht];rfl
    obtain⟨z,h1,h2⟩:=ZeO hR h (hρ _ _ hu) c.argTypes ht' o.type
    exact⟨z,by simp only[execOp,hop,resolve,hc,invoke,builtin,Y00,Y02,Y01,hx',List.map_toArray,Y09,List.map_nil,h1],h2⟩
  · rename_i hc
    split at h<;>try (simp at h;done)
    rename_i a l hl
    have he:=Z0F hρ _ _ hl
    simp only[LR]at he
    obtain⟨d,ds,e,hd,hds⟩:=he
    obtain⟨z,h1,h2⟩:=Z4P (P:=P) (λx y u h x' y' hx hy w=>Zci h hx hy w) l a r h d ds hd hds W
    refine⟨z,?_,h2⟩
    have e':(c.args.map ρ').toList=d::ds:=by rw[Y0c];exact e
    simp only[execOp,hop,resolve,hc,invoke,builtin,Y00,Y02,Y01,Builtin.max_,e',h1]
  · rename_i hc
    split at h<;>try (simp at h;done)
    rename_i a l hl
    have he:=Z0F hρ _ _ hl
    simp only[LR]at he
    obtain⟨d,ds,e,hd,hds⟩:=he
    obtain⟨z,h1,h2⟩:=Z4P (P:=P) (λx y u h x' y' hx hy w=>Zch h hx hy w) l a r h d ds hd hds W
    refine⟨z,?_,h2⟩
    have e':(c.args.map ρ').toList=d::ds:=by rw[Y0c];exact e
    simp only[execOp,hop,resolve,hc,invoke,builtin,Y00,Y02,Y01,Builtin.min_,e',h1]
 |_=>simp[hop]at h
end Go.Abs
end
section
namespace Go.Abs
open Go.RowKit
def Z4w:Nat->List AV->List AV
 |0,_=>[]
 |n+1,zs=>zs++Z4w n zs
def Z2V(H:Z00)(cs:List AV)(ty:TypeId):Z00:=H++[⟨true,H.length,0,.cells cs ty⟩]
def Zhf(P:Program)(e:TypeId)(H:Z00):Option (AV×Z00) :=
 match Z3C P e with
 |some z=>some (.ptr H.length 0,Z2V H z.cells e)
 |none=>none
def Znv(e:TypeId)(v:AV)(H:Z00):Option (AV×Z00):=some (.ptr H.length 0,Z2V H v.cells e)
def ZdH(P:Program)(t:TypeId)(len:Nat)(parts:List (Nat×AV)):Option (List AV×TypeId×Nat) :=
 match P.underlying t with
 |some (.slice e)=>match tsz P e with
  | some z => if len * z <= 16777216 then
    match (if len*z=0 then some [] else match Z3C P e with|some u=>(if u.cells.length=z then some (Z4w len u.cells) else none)|none=>none) with
    |some zs=>match Z7P (λi=>some (i*z,z)) zs parts with
     |some cs=>some (cs,e,z)
     |none=>none
    |none=>none
   else none
  |none=>none
 |_=>none
def Z4Q(P:Program)(t:TypeId)(len:Nat)(parts:List (Nat×AV))(H:Z00):Option (AV×Z00) :=
 match ZdH P t len parts with
 |some (cs,e,z)=>some (.slice H.length 0 len len z,Z2V H cs e)
 |none=>none
def Za5(P:Program)(t:TypeId)(l c:AV):Option (List AV×TypeId×Nat×Nat×Nat) :=
 match l,c with
 | .int _ l,.int _ c=>match P.underlying t with
  |some (.slice e)=>match tsz P e with
   |some z=>match P.info? e with
    |some i =>
     if 0<=l/\l<=c/\c<=1099511627776/\(i.bytes:Int)*c<=140737488355328 then
      match (if c.toNat*z=0 then some [] else match Z3C P e with|some u=>(if u.cells.length=z then some (Z4w c.toNat u.cells) else none)|none=>none) with
      |some zs=>some (zs,e,z,l.toNat,c.toNat)
      |none=>none
     else none
    |none=>none
   |none=>none
  |_=>none
 |_,_=>none
def Z1P(P:Program)(t:TypeId)(l c:AV)(H:Z00):Option (AV×Z00) :=
 match Za5 P t l c with
 |some (zs,e,z,l,c)=>some (.slice H.length 0 l c z,Z2V H zs e)
 |none=>none
def wr(H:Z00)(a:AV)(vs:List AV):Option Z00 :=
 match a with
 | .ptr b off=>match H[b]? with
  |some o=>match o.alive,o.body with
   | true, .cells cs ty => if vs.all one then
     match spl cs off vs with
     |some cs'=>some ((Z3G b o.fam H).set b { o with body:=.cells cs' ty })
     |none=>none
    else none
   |_,_=>none
  |none=>none
 |_=>none
def Zb1(P:Program)(t:TypeId)(a v:AV)(H:Z00):Option Z00 :=
 match tsz P t with
 |some n=>if v.cells.length=n then wr H a v.cells else none
 |none=>none
section eff
variable {P:Program} {sn:Z0l} {ι : Z0i} {H:Z00} {W:World}
theorem Ext.alloc(W:World)(o:Obj):Ext W (W.alloc o):=⟨λc hc=>Below.heap_alloc W o c hc,by simp,rfl,rfl,rfl⟩
theorem Ext.drew(W:World):Ext W W.drew:=⟨λ_ _=>rfl,Y03 _,rfl,rfl,rfl⟩
theorem or_cells {sn : Z0l} {ι : Z0i} {W : World} {g : Nat} {cs : List AV} {arr : Array Value} {ty : TypeId} (hw : W.heap[g]? = some (.cells arr ty (0, 0))) {l l' : List Value} (ha : arr.toList = l ++ l') (h : LR sn ι cs l) :
  OR sn ι W (.cells cs ty) ⟨g,0,arr.size⟩:=by
 have hl:=h.length
 have hs:arr.size=l.length+l'.length:=by rw[<- Array.length_toList,ha,Y0s]
 refine⟨arr,hw,rfl,by simp;omega,λi c hc=>?_⟩
 obtain⟨v,h1,h2⟩:=h.get hc
 refine⟨v,?_,h2⟩
 have hi:i<l.length:=(Y04.1 h1).1
 simp only[Y0g]
 rw[<- Y08,ha,Y07 hi];exact h1
theorem Z4f (hR : R sn ι H W) {cs : List AV} {arr : Array Value} (h : LR sn ι cs arr.toList) (ty : TypeId) :
  Stp sn ι H W sn (upd ι H.length ⟨W.heap.size,0,arr.size⟩) (Z2V H cs ty) (W.alloc (.cells arr ty)) :=
 Stp.alloc hR ⟨true,H.length,0,.cells cs ty⟩ (.cells arr ty) arr.size λ_ =>
  or_cells (l:=arr.toList) (l':=[]) (heap_alloc_new W _) (by simp) h
theorem Z9B(ι : Z0i)(n g sz:Nat):VR sn (upd ι n ⟨g,0,sz⟩) (.ptr n 0) (.pointer (some ⟨g,0,none⟩)):=by
 simp only[VR];exact⟨⟨g,0,sz⟩,by simp[upd],rfl⟩
theorem Zbb (hR : R sn ι H W) {e : TypeId} {r : AV} {H' : Z00} (h : Zhf P e H = some (r, H')) :
  ∃v W' ι',(Instr.alloc e true (.tuple #[])).run P W = .ok v W'/\VR sn ι' r v/\Stp sn ι H W sn ι' H' W':=by
 unfold Zhf at h;split at h<;>simp at h
 obtain⟨rfl,rfl⟩:=h;rename_i z hz
 obtain⟨z',h1,h2⟩:=Z2P hz
 refine⟨_,_,_,?_,Z9B ι H.length W.heap.size z'.cells.size,Z4f hR ((h2 sn ι).cells) e⟩
 simp[Instr.alloc,h1,newVar,newRow,run_newObj_alloc]
theorem ZeQ (hR : R sn ι H W) {e : TypeId} {x r : AV} {H' : Z00} (h : Znv e x H = some (r, H')) {x' : Value} (hx : VR sn ι x x') :
  ∃v W' ι',(Instr.box e x').run P W = .ok v W'/\VR sn ι' r v/\Stp sn ι H W sn ι' H' W':=by
 simp[Znv]at h
 obtain⟨rfl,rfl⟩:=h
 refine⟨_,_,_,?_,Z9B ι H.length W.heap.size x'.cells.size,Z4f hR hx.cells e⟩
 simp[Instr.box,newVar,newRow,run_newObj_alloc]
theorem Z8L{zs:List AV}{z:Array Value}(h:LR sn ι zs z.toList):∀(n:Nat),LR sn ι (Z4w n zs) ((List.range (n*z.size)).map λi=>z[i % z.size]!)
 |0=>by simp[Z4w,LR]
 |n+1=>by
  by_cases hz:z.size=0
  · have hl:=h.length
    simp[hz]at hl
    have:zs=[]:=Y0p (by omega)
    subst this
    have:=Z8L h n
    simp only[hz,Nat.mul_zero,List.range_zero,List.map_nil]at this⊢
    simpa[Z4w]using this
  · have e : (List.range ((n + 1) * z.size)).map (fun i => z[i % z.size]!) = z.toList ++ (List.range (n * z.size)).map fun i => z[i % z.size]! := by
     rw[Y05,Nat.one_mul,Nat.add_comm,List.range_add,List.map_append,List.map_map]
     congr 1
     · apply List.ext_getElem (by simp)
       intro i h1 h2
       simp at h2
       simp[Nat.mod_eq_of_lt h2,h2]
     · apply List.map_congr_left
       intro i _
       simp[Nat.add_mod_left]
    rw[e];exact h.append (Z8L h n)
theorem Z70(zs:List AV):∀n,(Z4w n zs).length=n*zs.length
 |0=>by simp[Z4w]
 |n+1=>by simp[Z4w,Z70 zs n,Y05];omega
theorem Z6O {e : TypeId} {n z : Nat} {zs : List AV} (hz : tsz P e = some z)
  (h:(if n*z=0 then some [] else match Z3C P e with|some u=>(if u.cells.length=z then some (Z4w n u.cells) else none)|none=>none)=some zs) :
  ∃zr:Array Value,(n*z=0->zr = #[])/\(n*z≠0->∃zv,(∀w,(zeroValue e).run P w = .ok zv w)/\zv.cells=zr) /\
   LR sn ι zs ((Array.range (n*z)).map (zr[· % zr.size]!)).toList/\zs.length=n*z:=by
 split at h
 · rename_i h0
   simp at h;subst h
   exact⟨#[],λ_=>rfl,λh=>absurd h0 h,by simp[h0,LR],by simp[h0]⟩
 · rename_i h0
   split at h<;>try (simp at h;done)
   rename_i u hu
   split at h<;>simp at h
   subst h;rename_i hul
   obtain⟨z',h1,h2⟩:=Z2P hu
   have hc:=(h2 sn ι).cells
   have hsz:z'.cells.size=z:=by have:=hc.length;simp at this;omega
   refine⟨z'.cells,λh=>absurd h h0,λ_=>⟨z',h1,rfl⟩,?_,by rw[Z70,hul]⟩
   have:=Z8L hc n
   rw[hsz]at this
   rw[Y0c,Array.toList_range]
   simp only[hsz]
   exact this
theorem Z6Q(ι : Z0i)(n g sz l c z:Nat)(hl:l<=c)(hc:c*z<=sz):VR sn (upd ι n ⟨g,0,sz⟩) (.slice n 0 l c z) (.slice (some ⟨g,0,none⟩) l c):=by
 simp only[VR];exact⟨⟨g,0,sz⟩,⟨g,0,none⟩,c,by simp[upd],rfl,hl,Y03 _,λ_=>⟨rfl,by simpa using hc⟩⟩
theorem Z6f {t : TypeId} {len : Nat} {ps : List (Nat × AV)} {cs : List AV} {e : TypeId} {z : Nat} (h : ZdH P t len ps = some (cs, e, z)) {ps' : Array (Nat × Value)} (hp : PR sn ι ps ps'.toList) :
  ∃r':Array Value,(∀W,(Instr.buildSlice t len ps').run P W = .ok (.slice (some ⟨W.heap.size,0,none⟩) len len) (W.alloc (.cells r' e)))/\LR sn ι cs r'.toList/\r'.size=len*z:=by
 unfold ZdH at h
 split at h<;>try (simp at h;done)
 rename_i e' ht
 split at h<;>try (simp at h;done)
 rename_i z' hz
 split at h<;>try (simp at h;done)
 rename_i hlen
 split at h<;>try (simp at h;done)
 rename_i zs hzs
 split at h<;>simp at h
 rename_i cs' hcs
 obtain⟨rfl,rfl,rfl⟩:=h
 obtain⟨zr,hz0,hz1,h2,h3⟩:=Z6O (sn:=sn) (ι:=ι) hz hzs
 obtain⟨r',h4,h5⟩:=Z3x (λi p h=>h) ps zs _ hcs ps'.toList _ hp h2
 have hcl:cs'.length=len*z':=by
  rw[<- h3];clear h3 h2 h4 h5 hzs
  have:∀(ps:List (Nat×AV))(zs cs:List AV),Z7P (λi=>some (i*z',z')) zs ps=some cs->cs.length=zs.length:=by
   intro ps
   induction ps with
   |nil=>intro zs cs h;simp[Z7P]at h;simp[h]
   |cons x ps ih =>
    intro zs cs h
    obtain⟨i,v⟩:=x
    simp only[Z7P]at h
    split at h<;>try (simp at h;done)
    split at h<;>try (simp at h;done)
    rename_i hs
    obtain⟨a1,rfl⟩:=Z56 hs
    rw[ih _ _ h];simp;omega
  exact this ps zs _ hcs
 have hrs:r'.size=len*z':=by have:=h5.length;simp at this;omega
 refine⟨r',λW=>?_,h5,hrs⟩
 have h24:¬(len*z'>2 ^ 24):=by omega
 by_cases h0:len*z'=0
 · obtain rfl:=hz0 h0
   simp only[Instr.buildSlice,Y00,run_underlying ht,Y01,Z0D hz,h24,if_false,h0,if_true]
   rw[h0]at h4
   simp at h4
   simp[newRow,run_newObj_alloc,h4]
 · obtain⟨zv,hzv,rfl⟩:=hz1 h0
   simp only[Instr.buildSlice,Y00,run_underlying ht,Y01,Z0D hz,h24,if_false,h0,hzv W,Y02,h4]
   simp[newRow,run_newObj_alloc]
theorem Z5Y (hR : R sn ι H W) {t : TypeId} {len : Nat} {ps : List (Nat × AV)} {r : AV} {H' : Z00} (h : Z4Q P t len ps H = some (r, H')) {ps' : Array (Nat × Value)} (hp : PR sn ι ps ps'.toList) :
  ∃v W' ι',(Instr.buildSlice t len ps').run P W = .ok v W'/\VR sn ι' r v/\Stp sn ι H W sn ι' H' W':=by
 unfold Z4Q at h
 split at h<;>simp at h
 rename_i cs e z hc
 obtain⟨rfl,rfl⟩:=h
 obtain⟨r',h1,h5,hrs⟩:=Z6f hc hp
 exact⟨_,_,_,h1 W,Z6Q ι H.length W.heap.size r'.size len len z (Y03 _) (by omega),Z4f hR h5 e⟩
theorem Z68 {t : TypeId} {l c : AV} {zs : List AV} {e : TypeId} {z ln cp : Nat} (h : Za5 P t l c = some (zs, e, z, ln, cp)) {l' c' : Value} (hl : VR sn ι l l') (hc : VR sn ι c c') :
  ∃r':Array Value,(∀W,(Instr.makeSlice t l' c').run P W = .ok (.slice (some ⟨W.heap.size,0,none⟩) ln cp) (W.alloc (.cells r' e)))/\LR sn ι zs r'.toList/\r'.size=cp*z/\ln<=cp:=by
 unfold Za5 at h
 split at h<;>try (simp at h;done)
 rename_i kl l kc c
 cases hl.int;cases hc.int
 split at h<;>try (simp at h;done)
 rename_i e' ht
 split at h<;>try (simp at h;done)
 rename_i z' hz
 split at h<;>try (simp at h;done)
 rename_i i hi
 split at h<;>try (simp at h;done)
 rename_i hb
 obtain⟨hb0,hb1,hb2,hb3⟩:=hb
 split at h<;>simp at h
 rename_i zs' hzs
 obtain⟨rfl,rfl,rfl,rfl,rfl⟩:=h
 obtain⟨zr,hz0,hz1,h2,h3⟩:=Z6O (sn:=sn) (ι:=ι) hz hzs
 have wl:IntKind.i64.wrap l=l:=by rw[IntKind.wrap_i64];omega
 have wc:IntKind.i64.wrap c=c:=by rw[IntKind.wrap_i64];omega
 have hc1:¬(c<0):=by omega
 have hc2:¬((i.bytes:Int)*c>2 ^ 48):=by omega
 have hc3:¬(l<0):=by omega
 have hc4:¬(l>c):=by omega
 refine⟨_,λW=>?_,h2,by simp,by omega⟩
 simp only[Instr.makeSlice,Y00,run_underlying ht,Y01,asInt,asIntOf,Y02,typeInfo,run_program,hi,wl,wc,hc1,hc2,hc3,hc4,decide_false,Bool.or_false,Y0b,if_false,Z0D hz]
 have hroom:∀w:World,(askRoom (c.toNat*i.bytes)).run P w = .ok () w:=by
  intro w;unfold askRoom;split<;>simp[mark,Sem.run]
 by_cases h0:c.toNat*z'=0
 · obtain rfl:=hz0 h0
   simp only[hroom,Y01,h0,if_true,Y02,Y00]
   simp[newRow,run_newObj_alloc]
 · obtain⟨zv,hzv,rfl⟩:=hz1 h0
   simp only[hroom,Y01,h0,if_false,Y02,Y00,hzv W]
   simp[newRow,run_newObj_alloc]
theorem Z6r (hR : R sn ι H W) {t : TypeId} {l c r : AV} {H' : Z00} (h : Z1P P t l c H = some (r, H')) {l' c' : Value} (hl : VR sn ι l l') (hc : VR sn ι c c') :
  ∃v W' ι',(Instr.makeSlice t l' c').run P W = .ok v W'/\VR sn ι' r v/\Stp sn ι H W sn ι' H' W':=by
 unfold Z1P at h
 split at h<;>simp at h
 rename_i zs e z ln cp hm
 obtain⟨rfl,rfl⟩:=h
 obtain⟨r',h1,h5,hrs,hlc⟩:=Z68 hm hl hc
 exact⟨_,_,_,h1 W,Z6Q ι H.length W.heap.size r'.size ln cp z hlc (by omega),Z4f hR h5 e⟩
theorem Z6u (hR : R sn ι H W) {a : AV} {vs : List AV} {H' : Z00} (h : wr H a vs = some H') {a' : Value} (ha : VR sn ι a a') {vs' : List Value} (hv : LR sn ι vs vs') :
  ∃ad W',a' = .pointer (some ad)/\(storeCells ad vs').run P W = .ok () W'/\Stp sn ι H W sn ι H' W':=by
 unfold wr at h
 split at h<;>try (simp at h;done)
 rename_i b off
 split at h<;>try (simp at h;done)
 rename_i o ho
 split at h<;>try (simp at h;done)
 rename_i cs ty hal hbd
 split at h<;>try (simp at h;done)
 rename_i hone
 split at h<;>simp at h
 rename_i cs' hspl
 subst h
 obtain⟨h1,rfl⟩:=Z56 hspl
 obtain⟨p,hp,rfl⟩:=ha.ptr
 have hob:=hR.obj b o p ho hal hp
 rw[hbd]at hob;simp only[OR]at hob
 obtain⟨arr,g1,g2,g3,g4⟩:=hob
 have hvl:=hv.length
 have h1':∀v∈vs',v.oneCell'=true:=by
  intro v hvm
  obtain⟨i,hi⟩:=List.getElem?_of_mem hvm
  have hil:i<vs.length:=by have:=(Y04.1 hi).1;omega
  obtain⟨x,e1,e2⟩:=hv.get (Y0m hil)
  rw[hi]at e1;simp at e1;subst e1
  exact e2.one (List.all_eq_true.1 hone _ (List.getElem_mem hil))
 have hst:=run_storeCells_at P p.blk (p.sh+off) ty vs' 0 arr W g1 (by omega) h1'
 simp only[Y0n]at hst
 refine⟨_,_,rfl,hst,?_⟩
 have hrow:=setRow_heap W p.blk arr (arr.toList.take (p.sh+off)++vs'++arr.toList.drop (p.sh+off+vs'.length)).toArray ty (0,0) g1
 refine Stp.write hR ho hal hp ⟨λc hc=>setRow_other W p.blk c _ hc,by simp[World.setRow],rfl,rfl,rfl⟩ _ ?_
 refine⟨_,hrow,by simp;omega,by simp;omega,λi c hc=>?_⟩
 simp only[Y0v]
 rw[Y0j]at hc
 rw[Y0j]
 rcases Nat.lt_or_ge i off with hi|hi
 · rw[Y07 (by simp;omega),Y0a,if_pos hi]at hc
   obtain⟨v,k1,k2⟩:=g4 i c hc
   refine⟨v,?_,k2⟩
   rw[Y07 (by simp;omega),Y0a,if_pos (by omega),Y08];exact k1
 · rw[Y0h (by simp;omega)]at hc
   rw[Y0h (by simp;omega)]
   have e1:(cs.take off).length=off:=by simp;omega
   have e2:(arr.toList.take (p.sh+off)).length=p.sh+off:=by simp;omega
   rw[e1]at hc;rw[e2,show p.sh+i-(p.sh+off)=i-off from by omega]
   rcases Nat.lt_or_ge (i-off) vs.length with hj|hj
   · rw[Y07 hj]at hc
     rw[Y07 (by omega)]
     exact hv.get hc
   · rw[Y0h hj,Y0i]at hc
     rw[Y0h (by omega),Y0i,hvl]
     obtain⟨v,k1,k2⟩:=g4 _ c hc
     refine⟨v,?_,k2⟩
     rw[Y08,<- k1];congr 1;omega
theorem Zb0 (hR : R sn ι H W) {t : TypeId} {a x : AV} {H' : Z00} (h : Zb1 P t a x H = some H') {a' x' : Value} (ha : VR sn ι a a') (hx : VR sn ι x x') :
  ∃W',(Instr.storeAt t a' x').run P W = .ok () W'/\Stp sn ι H W sn ι H' W':=by
 unfold Zb1 at h
 split at h<;>try (simp at h;done)
 rename_i n hn
 split at h<;>try (simp at h;done)
 rename_i hl
 have hc:=hx.cells
 have hs:x'.cells.size=n:=by have:=hc.length;simp at this;omega
 obtain⟨ad,W',rfl,h1,h2⟩:=Z6u (P:=P) hR h ha hc
 refine⟨W',?_,h2⟩
 simp only[Instr.storeAt,Instr.sureAddr,Y00,Y02,Y01,storeVar,Z0D hn,hs,ne_eq,not_true_eq_false,if_false,h1]
end eff
end Go.Abs
end
section
namespace Go.Abs
open Go.RowKit
def Z2M(H:Z00)(z:Nat)(x:AV):Option (Nat×List AV) :=
 match x with
 | .nslice=>some (0,[])
 | .slice b off len _ z'=>if z'=z then (match rd H (.ptr b off) (len*z) with|some cs=>some (len,cs)|none=>none) else none
 | .rs n z' cs=>if z'=z then some (n,cs) else none
 | .str s=>if z=1 then some (s.length,s.map λb=>.int .u8 b.toNat) else none
 |_=>none
def Zno(H:Z00)(b:Nat):Nat:=match H[b]? with|some o=>(match o.body with | .cells cs _=>cs.length|_=>0)|none=>0
def apx(P:Program)(t2:TypeId):Bool:=match P.underlying t2 with|some (.slice _)=>true|some .string=>true|_=>false
def Z0U(P:Program)(t t2:TypeId)(s x:AV)(H:Z00):Option (AV×Z00) :=
 match P.underlying t with
 |some (.slice e) =>
  match P.info? e,Z3C P e with
  |some i,some u =>
   if apx P t2&&u.cells.length==i.size then
    match Z2M H i.size x with
    |some (n,xs) =>
     if n=0 then (match s with | .nslice=>some (s,H) | .slice ..=>some (s,H) | .rs ..=>some (s,H)|_=>none) else
     match s with
     | .nslice =>
      if n<=1099511627776/\n*i.bytes<=70368744177664 then some (.slice H.length 0 n n i.size,Z2V H xs e) else none
     | .slice b off len cap z =>
      if z=i.size then
       if len+n<=cap/\off+len*z<Zno H b then
        match wr H (.ptr b (off+len*z)) xs with
        |some H'=>some (.slice b off (len+n) cap z,H')
        |none=>none
       else if len+n<=1099511627776/\(len+n)*i.bytes<=70368744177664 then
        match H[b]? with
        |some o=>match o.alive,o.body with
         |true,.cells cs ty =>
          if off+len*z=cs.length/\ty=e/\xs.all one=true then
           some (.slice H.length 0 (len+n) (len+n) z,ZeB o.fam (o.sh+cs.length) H++[⟨true,o.fam,o.sh+off,.cells (cs.drop off++xs) ty⟩])
          else none
         |_,_=>none
        |none=>none
       else none
      else none
     |_=>none
    |none=>none
   else none
  |_,_=>none
 |_=>none
def Zhd(P:Program)(t:TypeId)(x:AV)(H:Z00):Option Z00 :=
 match P.underlying t with
 |some (.slice e)=>match Z3C P e with
  |some u=>match x with
   | .nslice=>some H
   | .slice b off len cap z=>if len=0 then some H else if u.cells.length=z then wr H (.ptr b off) (Z4w len u.cells) else none
   |_=>none
  |none=>none
 |_=>none
theorem Z4Z(ι : Z0i)(n:Nat)(p:Place):upd ι n p n=some p:=by simp[upd]
section eff
variable {P:Program} {sn:Z0l} {ι : Z0i} {H:Z00} {W:World}
theorem MR.cells(hR:R sn ι H W):∀{cs:List AV}{b o:Nat},MR sn cs b o->∃vs:List Value,LR sn ι cs vs/\∀(j:Nat)(x:Value),vs[j]? = some x->W.cell? ⟨b,o+j,none⟩=some x
 |[],b,o,_=>⟨[],by simp[LR],by simp⟩
 |c::cs,b,o,h=>by
  simp only[MR]at h
  obtain⟨⟨v,h1,h2⟩,h3⟩:=h
  obtain⟨vs,h4,h5⟩:=MR.cells hR h3
  refine⟨v::vs,by simp only[LR];exact⟨v,vs,rfl,Zbc h2,h4⟩,λj x hx=>?_⟩
  cases j with
  |zero=>simp at hx;subst hx;exact (hR.snap _ _ h1).2.1
  |succ j=>simp at hx;have:=h5 j x hx;rwa [show o+(j+1)=o+1+j from by omega]
theorem Z61 (hR : R sn ι H W) {z n : Nat} {x : AV} {xs : List AV} (h : Z2M H z x = some (n, xs)) {x' : Value} (hx : VR sn ι x x') :
  ∃news:List Value,LR sn ι xs news/\news.length=n*z/\(∀w,(Builtin.lenOf x').run P w = .ok n w) /\
   ∀w,(∀a,w.cell? a=W.cell? a)->(Builtin.firstCells z n x').run P w = .ok news.toArray w:=by
 unfold Z2M at h
 split at h
 · simp at h;obtain⟨rfl,rfl⟩:=h;cases hx.nslice
   exact⟨[],by simp[LR],by simp,λw=>by simp[Builtin.lenOf],λw _=>by simp[Builtin.firstCells]⟩
 · split at h<;>try (simp at h;done)
   rename_i b off len cap z' hz;subst hz
   split at h<;>simp at h
   obtain⟨rfl,rfl⟩:=h;rename_i cs hcs
   obtain⟨p,a,cap',hp,rfl,hlc,hcc,hne⟩:=hx.slice
   obtain⟨g,o,vs,e,h1,h2,h3⟩:=Z59 hR.ro hcs (v:=.pointer (some ⟨p.blk,p.sh+off,none⟩)) (by simp only[VR];exact⟨p,hp,rfl⟩)
   simp at e;obtain⟨rfl,rfl⟩:=e
   refine⟨vs,h1,h2,λw=>by simp[Builtin.lenOf],λw hw=>?_⟩
   by_cases hc0:cap'=0
   · have:len=0:=by omega
     subst this
     have:vs=[]:=Y0p (by simpa using h2)
     subst this
     simp[Builtin.firstCells,loadCells,loadCellsFrom]
   · obtain⟨rfl,_⟩:=hne hc0
     exact run_firstCells_some w z' len _ len cap' vs h2 λj v hj=>by rw[hw];exact h3 j v hj
 · split at h<;>simp at h
   obtain⟨rfl,rfl⟩:=h
   rename_i n z' cs hz;subst hz
   rcases hx.rs with ⟨rfl,rfl,rfl⟩|⟨⟨b,o,sp⟩,cap,rfl,hc,hcs,hm,hsp⟩
   ·exact⟨[],by simp[LR],by simp,λw=>by simp[Builtin.lenOf],λw _=>by simp[Builtin.firstCells]⟩
   obtain⟨vs,h1,h2⟩:=hm.cells hR
   have hsp':∀(j:Nat)(v:Value),vs[j]? = some v->sp=none:=λj v hj=>hsp λh0=>by
    have:=(Y04.1 hj).1
    rw[h1.length,hcs,h0,Nat.zero_mul]at this;omega
   refine⟨vs,h1,by rw[h1.length,hcs],λw=>by simp[Builtin.lenOf],λw hw=>?_⟩
   exact run_firstCells_some w z' n _ n cap vs (by rw[h1.length,hcs]) λj v hj=>by cases hsp' j v hj;rw[hw,Z0I];exact h2 j v hj
 · split at h<;>simp at h
   obtain⟨rfl,rfl⟩:=h
   rename_i s hz;subst hz
   obtain⟨ba,rfl,rfl⟩:=hx.str
   have hsz:ba.data.toList.length=ba.size:=by cases ba;rfl
   refine⟨ba.data.toList.map λb=>.int .u8 b.toNat,?_,by simp,λw=>by rw[hsz];simp[Builtin.lenOf],λw _=>?_⟩
   · generalize ba.data.toList=l
     induction l with
     |nil=>simp[LR]
     |cons b l ih=>simp only[Y09,LR];exact⟨_,_,rfl,Z62 _ _,ih⟩
   · have e : (ba.extract 0 ba.size) = ba := by
      apply ByteArray.ext;apply Array.ext';rw[Lib.extract_data,List.drop_zero,Y0k,<- hsz,List.take_length]
     rw[hsz]
     simp only[Builtin.firstCells,e,Y02]
     congr 1;apply Array.ext';simp
 ·simp at h
theorem ZaU{t2:TypeId}(h:apx P t2=true):(∃e2,P.underlying t2=some (.slice e2))\/P.underlying t2=some .string:=by
 unfold apx at h
 split at h
 ·exact .inl ⟨_,by assumption⟩
 ·exact .inr (by assumption)
 ·simp at h
theorem Z25 {t t2 ty e : TypeId} {i : TypeInfo} (ht : P.underlying t = some (.slice e)) (h2 : apx P t2 = true)
  (hi:P.info? e=some i) {n:Nat} {x:Value} {news:List Value} (hn:∀w,(Builtin.lenOf x).run P w = .ok n w) (w w':World) (hf:(Builtin.firstCells i.size n x).run P w = .ok news.toArray w)
  (base:Option Addr) (sLen sCap:Nat) (hroom:sLen+n<=sCap) (hst:∀a,base=some a->(storeCells (a.add (sLen*i.size)) news).run P w = .ok () w') (hno:base=none->w'=w) :
  (Builtin.append_ #[t,t2] ty #[.slice base sLen sCap,x]).run P w = .ok (.slice base (sLen+n) sCap) w':=by
 rcases ZaU h2 with ⟨e2,hd⟩|hd
 all_goals
  cases base with
  |none =>
   have:=hno rfl;subst this
   simp[Builtin.append_,run_underlying ht,run_underlying hd,sizeOf,typeInfo,hi,hn,hroom,hf]
  |some a =>
   have:=hst a rfl
   simp[Builtin.append_,run_underlying ht,run_underlying hd,sizeOf,typeInfo,hi,hn,hroom,hf,this]
theorem Z3z {t t2 ty e : TypeId} {i : TypeInfo} {z : Value} (ht : P.underlying t = some (.slice e)) (h2 : apx P t2 = true)
  (hi:P.info? e=some i) (hz:i.zero=some z) {n:Nat} {x:Value} {news olds:List Value} (hn:∀w,(Builtin.lenOf x).run P w = .ok n w) (w:World)
  (hf:(Builtin.firstCells i.size n x).run P w.drew = .ok news.toArray w.drew)
  (base:Option Addr) (sLen sCap:Nat) (ho:(Builtin.firstCells i.size sLen (.slice base sLen sCap)).run P w.drew = .ok olds.toArray w.drew)
  (hg:sCap<sLen+n) (hb1:sLen+n<=1099511627776) (hb2:(sLen+n)*i.bytes<=70368744177664) :
  (Builtin.append_ #[t,t2] ty #[.slice base sLen sCap,x]).run P w =
   .ok (.slice (some ⟨w.heap.size,0,none⟩) (sLen+n) (grownCap w (sLen+n) sCap e))
    (w.drew.alloc (.cells (olds.toArray++news.toArray++Builtin.zeroCells z.cells (grownCap w (sLen+n) sCap e-(sLen+n))) e)):=by
 have hn':¬(sLen+n<=sCap):=by omega
 have h63':¬(9223372036854775807<((sLen:Int)+(n:Int))):=by omega
 have h48:Builtin.nextslicecap (sLen+n) sCap*i.bytes<=281474976710656:=growslice_fits hg (by omega)
 have h48':¬(281474976710656<Builtin.nextslicecap (sLen+n) sCap*i.bytes):=by omega
 clear hg hb1 hb2 h48
 rcases ZaU h2 with ⟨e2,hd⟩|hd
 all_goals
  simp[Builtin.append_,run_underlying ht,run_underlying hd,sizeOf,typeInfo,zeroValue,hi,hz,hn,hn',h63',h48',Question.forced,hf,ho,newRow,grownCap,<- Array.append_assoc]
theorem Z9t (hR : R sn ι H W) {t t2 ty : TypeId} {s x r : AV} {H' : Z00} (h : Z0U P t t2 s x H = some (r, H')) {s' x' : Value} (hs : VR sn ι s s') (hx : VR sn ι x x') :
  ∃v W' ι',(Builtin.append_ #[t,t2] ty #[s',x']).run P W = .ok v W'/\VR sn ι' r v/\Stp sn ι H W sn ι' H' W':=by
 unfold Z0U at h
 split at h<;>try (simp at h;done)
 rename_i e ht
 split at h<;>try (simp at h;done)
 rename_i i u hi hu
 split at h<;>try (simp at h;done)
 rename_i hcond
 simp only[Y0u,beq_iff_eq]at hcond
 obtain⟨h2,hul⟩:=hcond
 have hz:∃z,i.zero=some z/\∀sn ι,VR sn ι u z:=by
  unfold Z3C at hu;rw[hi]at hu
  cases hq:i.zero with
  |none=>simp[hq]at hu
  |some z=>simp[hq]at hu;exact⟨z,rfl,λsn ι=>Z8c z u hu⟩
 obtain⟨z,hz,hzu⟩:=hz
 have hzs:z.cells.size=i.size:=by have:=((hzu sn ι).cells).length;simp at this;omega
 split at h<;>try (simp at h;done)
 rename_i n xs hxs
 obtain⟨news,k1,k2,k3,k4⟩:=Z61 (P:=P) hR hxs hx
 split at h
 ·
  rename_i hn0
  subst hn0
  have hnil:news=[]:=Y0p (by simpa using k2)
  subst hnil
  have key:∀base sLen sCap,s' = .slice base sLen sCap->sLen<=sCap->(Builtin.append_ #[t,t2] ty #[s',x']).run P W = .ok s' W:=by
   intro base sLen sCap e1 e2
   subst e1
   have:=Z25 (ty:=ty) ht h2 hi k3 W W (k4 W λ_=>rfl) base sLen sCap (by omega) (λa _=>by simp[storeCells]) (λ_=>rfl)
   simpa using this
  split at h<;>simp at h<;>obtain⟨rfl,rfl⟩:=h
  ·exact⟨s',W,ι,key none 0 0 hs.nslice (Y03 _),hs,Stp.refl hR⟩
  · obtain⟨p,a,c,hp,e1,l1,l2,_⟩:=hs.slice
    exact⟨s',W,ι,key _ _ _ e1 (by omega),hs,Stp.refl hR⟩
  · rcases hs.rs with ⟨rfl,rfl,e1⟩|⟨a,c,e1,l1,_⟩
    ·exact⟨s',W,ι,key none 0 0 e1 (Y03 _),hs,Stp.refl hR⟩
    ·exact⟨s',W,ι,key _ _ _ e1 l1,hs,Stp.refl hR⟩
 rename_i hn0
 split at h
 ·
  split at h<;>simp at h
  rename_i hb
  obtain⟨rfl,rfl⟩:=h
  cases hs.nslice
  have hrun:=Z3z (ty:=ty) (olds:=[]) ht h2 hi hz k3 W (k4 W.drew λ_=>rfl) none 0 0 (by simp[Builtin.firstCells]) (by omega) (by omega) (by simpa using hb.2)
  simp only[Y0g]at hrun
  have hge:=grownCap_ge W n 0 e
  refine⟨_,_,upd ι H.length ⟨W.heap.size,0,(([]:List Value).toArray++news.toArray++Builtin.zeroCells z.cells (grownCap W n 0 e-n)).size⟩,hrun,?_,?_⟩
  · simp only[VR]
    refine⟨_,_,_,Z4Z _ _ _,rfl,Y03 _,hge,λ_=>⟨rfl,?_⟩⟩
    simp only[Array.size_append,List.size_toArray,List.length_nil,k2,size_zeroCells,hzs,Y0g]
    rw[<- Y05];exact Y0f _ (by omega)
  · refine Stp.trans hR (Stp.ext hR (Ext.drew W)) ?_
    refine Stp.alloc (hR.ext (Ext.drew W)) ⟨true,H.length,0,.cells xs e⟩ _ _ λ_=>?_
    refine or_cells (heap_alloc_new _ _) (l:=news) (l':=(Builtin.zeroCells z.cells (grownCap W n 0 e-n)).toList) (by simp) k1
 ·
  rename_i b off len cap zz
  split at h<;>try (simp at h;done)
  rename_i hzz;subst hzz
  obtain⟨p,a,cap',hp,rfl,hlc,hcc,hne⟩:=hs.slice
  split at h
  ·
   rename_i hroom'
   have hroom:=hroom'.1
   split at h<;>simp at h
   rename_i H1 hw
   obtain⟨rfl,rfl⟩:=h
   obtain⟨rfl,hbb⟩:=hne (by omega)
   obtain⟨ad,W',e1,hst,hstp⟩:=Z6u (P:=P) hR hw (a':=.pointer (some ⟨p.blk,p.sh+(off+len*i.size),none⟩)) (by simp only[VR];exact⟨p,hp,rfl⟩) k1
   simp at e1;subst e1
   have hrun:=Z25 (ty:=ty) ht h2 hi k3 W W' (k4 W λ_=>rfl) (some ⟨p.blk,p.sh+off,none⟩) len cap' (by omega) (λa ha=>by simp at ha;subst ha;rw[Z0I,Y0d];exact hst) (by simp)
   exact⟨_,W',ι,hrun,by simp only[VR];exact⟨p,_,cap',hp,rfl,by omega,hcc,hne⟩,hstp⟩
  ·
   rename_i hroom
   split at h<;>try (simp at h;done)
   rename_i hb
   split at h<;>try (simp at h;done)
   rename_i o ho
   split at h<;>try (simp at h;done)
   rename_i cs ty' hal hbd
   split at h<;>simp at h
   rename_i hends
   obtain⟨hend,rfl,hone⟩:=hends
   obtain⟨rfl,rfl⟩:=h
   have hob:=hR.obj b o p ho hal hp
   rw[hbd]at hob;simp only[OR]at hob
   obtain⟨arr,g1,g2,g3,g4⟩:=hob
   have hrd:rd H (.ptr b off) (len*i.size)=some (cs.drop off):=by
    have htk:∀(l:List AV),tk l.length l=some l:=by
     intro l;induction l with
     |nil=>rfl
     |cons c l ih=>simp[tk,ih]
    simp only[rd,ho,hal,hbd]
    rw[show len*i.size=(cs.drop off).length from by simp;omega];exact htk _
   obtain⟨g,o',olds,e1,q1,q2,q3⟩:=Z59 hR.ro hrd (v:=.pointer (some ⟨p.blk,p.sh+off,none⟩)) (by simp only[VR];exact⟨p,hp,rfl⟩)
   simp at e1;obtain⟨rfl,rfl⟩:=e1
   by_cases hgrow:cap'<len+n
   ·
    have hfirst:∀w1,(∀a,w1.cell? a=W.cell? a)->(Builtin.firstCells i.size len (.slice (some a) len cap')).run P w1 = .ok olds.toArray w1:=by
     intro w1 hw1
     by_cases hc0:cap'=0
     · have:len=0:=by omega
       subst this
       have:olds=[]:=Y0p (by simpa using q2)
       subst this
       simp[Builtin.firstCells,loadCells,loadCellsFrom]
     · obtain⟨rfl,_⟩:=hne hc0
       exact run_firstCells_some w1 i.size len _ len cap' olds q2 λj v hj=>by rw[hw1];exact q3 j v hj
    have hrun:=Z3z (ty:=ty) ht h2 hi hz k3 W (k4 W.drew λ_=>rfl) (some a) len cap' (hfirst W.drew λ_=>rfl) hgrow (by omega) hb.2
    have hge:=grownCap_ge W (len+n) cap' ty'
    refine⟨_,_,upd ι H.length ⟨W.heap.size,0,(olds.toArray++news.toArray++Builtin.zeroCells z.cells (grownCap W (len+n) cap' ty'-(len+n))).size⟩,hrun,?_,?_⟩
    · simp only[VR]
      refine⟨_,_,_,Z4Z _ _ _,rfl,Y03 _,hge,λ_=>⟨rfl,?_⟩⟩
      simp only[Array.size_append,List.size_toArray,q2,k2,size_zeroCells,hzs,Y0g]
      rw[<- Y05,<- Y05];exact Y0f _ (by omega)
    · have hk:(ZeB o.fam (o.sh+cs.length) H).length=H.length:=by rw[ZeB,Z0L]
      have hk1:=Stp.kil hR (λ_ (o1:AObj)=>Y06 o1.fam o.fam && !Nat.ble (o1.sh+o1.body.len) (o.sh+cs.length))
      refine Stp.trans hR hk1 ?_
      have hR1:=hk1.rel
      refine Stp.trans hR1 (Stp.ext hR1 (Ext.drew W)) ?_
      have hR2:=hR1.ext (Ext.drew W)
      have:=Stp.alloc hR2 ⟨true,o.fam,o.sh+off,.cells (cs.drop off++xs) ty'⟩ (.cells (olds.toArray++news.toArray++Builtin.zeroCells z.cells (grownCap W (len+n) cap' ty'-(len+n))) ty') _ λ_ =>
       or_cells (heap_alloc_new _ _) (l:=olds++news) (l':=(Builtin.zeroCells z.cells (grownCap W (len+n) cap' ty'-(len+n))).toList) (by simp) (q1.append k1)
      rw[Z0L]at this
      exact this
   ·
    obtain⟨rfl,hbb⟩:=hne (by omega)
    have h1':∀v∈news,v.oneCell'=true:=by
     intro v hvm
     obtain⟨j,hj⟩:=List.getElem?_of_mem hvm
     have hjl:j<xs.length:=by have:=(Y04.1 hj).1;have:=k1.length;omega
     obtain⟨x1,e1,e2⟩:=k1.get (Y0m hjl)
     rw[hj]at e1;simp at e1;subst e1
     exact e2.one (List.all_eq_true.1 hone _ (List.getElem_mem hjl))
    have hfit:p.sh+off+len*i.size+news.length<=arr.size:=by
     rw[k2]
     have:len*i.size+n*i.size<=cap'*i.size:=by rw[<- Y05];exact Y0f _ (by omega)
     omega
    have hst:=run_storeCells_at P p.blk (p.sh+off+len*i.size) ty' news 0 arr W g1 (by omega) h1'
    simp only[Y0n]at hst
    have hrun:=Z25 (ty:=ty) ht h2 hi k3 W _ (k4 W λ_=>rfl) (some ⟨p.blk,p.sh+off,none⟩) len cap' (by omega) (λa ha=>by simp at ha;subst ha;rw[Z0I];exact hst) (by simp)
    have hrow:=setRow_heap W p.blk arr (arr.toList.take (p.sh+off+len*i.size)++news++arr.toList.drop (p.sh+off+len*i.size+news.length)).toArray ty' (0,0) g1
    refine⟨_,_,upd ι H.length ⟨p.blk,p.sh+off,p.n⟩,hrun,?_,?_⟩
    · simp only[VR]
      exact⟨_,_,cap',Z4Z _ _ _,rfl,Y03 _,by omega,λ_=>⟨by simp,by simpa using hbb⟩⟩
    · refine Stp.grow hR ho hal hp hbd ⟨λc hc=>setRow_other W p.blk c _ hc,by simp[World.setRow],rfl,rfl,rfl⟩ arr _ g1 hrow (by simp;omega) ?_ off _ ?_
      · intro j hj
        rw[Y0v,Y0j,Y07 (by simp;omega),Y0a,if_pos (by omega),Y08]
      · refine⟨_,hrow,by simp;omega,by have:=k1.length;simp;omega,λj c hj=>?_⟩
        rw[Y0v]
        show ∃v,(List.take (p.sh+off+len*i.size) arr.toList++news++List.drop (p.sh+off+len*i.size+news.length) arr.toList)[p.sh+off+j]? = some v/\_
        rcases Nat.lt_or_ge j (cs.drop off).length with hjl|hjl
        · rw[Y07 hjl,Y0i]at hj
          obtain⟨v,e1,e2⟩:=g4 _ c hj
          refine⟨v,?_,e2⟩
          simp at hjl
          rw[Y0j,Y07 (by simp;omega),Y0a,if_pos (by omega),Y08,<- e1];congr 1;omega
        · rw[Y0h hjl]at hj
          obtain⟨v,e1,e2⟩:=k1.get hj
          refine⟨v,?_,e2⟩
          have hjn:j-(cs.drop off).length<news.length:=(Y04.1 e1).1
          simp at hjl hjn e1
          rw[Y0j,Y0h (by simp;omega),Y07 (by simp;omega),<- e1];congr 1;simp;omega
 ·simp at h
theorem Zb9 (hR : R sn ι H W) {t ty : TypeId} {x : AV} {H' : Z00} (h : Zhd P t x H = some H') {x' : Value} (hx : VR sn ι x x') :
  ∃W',(Builtin.clear_ #[t] ty #[x']).run P W = .ok (.tuple #[]) W'/\Stp sn ι H W sn ι H' W':=by
 unfold Zhd at h
 split at h<;>try (simp at h;done)
 rename_i e ht
 split at h<;>try (simp at h;done)
 rename_i u hu
 split at h<;>try (simp at h;done)
 · simp at h;subst h
   cases hx.nslice
   exact⟨W,by simp[Builtin.clear_,run_underlying ht],Stp.refl hR⟩
 · rename_i b off len cap z
   obtain⟨p,a,cap',hp,rfl,hlc,hcc,hne⟩:=hx.slice
   split at h
   · rename_i h0
     subst h0
     simp at h;subst h
     exact⟨W,by simp[Builtin.clear_,run_underlying ht],Stp.refl hR⟩
   · rename_i h0
     split at h<;>try (simp at h;done)
     rename_i hul
     obtain⟨rfl,hbb⟩:=hne (by omega)
     obtain⟨z',h1,h2⟩:=Z2P hu
     have hc:=(h2 sn ι).cells
     have hl:LR sn ι (Z4w len u.cells) (Builtin.zeroCells z'.cells len).toList:=by
      have:=Z8L hc len
      unfold Builtin.zeroCells
      rw[Y0c,Array.toList_range]
      exact this
     obtain⟨ad,W',e1,hst,hstp⟩:=Z6u (P:=P) hR h (a':=.pointer (some ⟨p.blk,p.sh+off,none⟩)) (by simp only[VR];exact⟨p,hp,rfl⟩) hl
     simp at e1;subst e1
     refine⟨W',?_,hstp⟩
     obtain⟨m,rfl⟩:∃m,len=m+1:=⟨len-1,by omega⟩
     simp[Builtin.clear_,run_underlying ht,h1,hst]
end eff
end Go.Abs
end
section
namespace Go.Abs
open Go.RowKit
def Z3A(f:TypeId->Option Nat):List Field->Nat->Option Nat
 |[],off=>some off
 |fl::fs,off=>if fl.name ≠ "_" /\ fl.offset=off then (match f fl.type with|some z=>Z3A f fs (off+z)|none=>none) else none
def Z2s(P:Program):Nat->TypeId->Option Nat
 |0,_=>none
 |d+1,t=>match P.underlying t,tsz P t with
  |some (.int _),some z=>if z=1 then some z else none
  |some (.array n e),some z=>match Z2s P d e with|some ze=>if n*ze=z then some z else none|none=>none
  |some (.struct fs),some z=>if P.stoodInHeld t=true then none else match Z3A (Z2s P d) fs.toList 0 with|some z'=>if z'=z then some z else none|none=>none
  |_,_=>none
def iv(l:List (IntKind×Int)):List Value:=l.map λp=>.int p.1 p.2
def pk(P:Program)(t:TypeId)(cs:List Value):Value:=match Z4u P t with|some true=>.agg cs.toArray|_=>cs.headD undef
def ZbB:List AV->List AV->Option Bool
 |[],[]=>some true
 | .int k a::xs,.int k' b::ys=>if k=k' then (match ZbB xs ys with|some r=>some ((a==b)&&r)|none=>none) else none
 |_,_=>none
def Zji:Nat->List AV->Bool
 |0,[]=>true
 |n+1,.int _ _::xs=>Zji n xs
 |_,_=>false
def Zim(d:TypeDesc)(k:AV):Bool:=match d with
 | .array n _=>(match k with | .agg xs=>Zji n xs|_=>false)
 |_=>true
section flat
variable {P:Program}
theorem Z7n:∀{d:Nat}{t:TypeId}{z:Nat},Z2s P d t=some z->tsz P t=some z
 |0,t,z,h=>by simp[Z2s]at h
 |d+1,t,z,h=>by
  unfold Z2s at h
  split at h
  ·rename_i hz;split at h<;>simp at h;subst h;exact hz
  · rename_i hz;split at h<;>try (simp at h;done)
    split at h<;>simp at h;subst h;exact hz
  · rename_i hz;split at h<;>try (simp at h;done)
    split at h<;>try (simp at h;done)
    split at h<;>simp at h;subst h;exact hz
  ·simp at h
theorem Zgp{d:Nat}{t:TypeId}{z:Nat}(h:Z2s P (d+1) t=some z):((∃k,P.underlying t=some (.int k))/\Z4u P t=some false/\z=1)\/(((∃n e,P.underlying t=some (.array n e))\/∃fs,P.underlying t=some (.struct fs))/\Z4u P t=some true):=by
 unfold Z2s at h
 split at h
 ·rename_i k z' hu hz;left;split at h<;>simp at h;subst h;rename_i e;exact⟨⟨k,hu⟩,by simp[Z4u,hu],e⟩
 ·rename_i n e z' hu hz;right;exact⟨.inl ⟨n,e,hu⟩,by simp[Z4u,hu]⟩
 ·rename_i fs z' hu hz;right;exact⟨.inr ⟨fs,hu⟩,by simp[Z4u,hu]⟩
 ·simp at h
theorem Z32 {d : Nat} {t : TypeId} {z : Nat} (h : Z2s P d t = some z) (arr : Array Value) (off : Nat) (hl : off + z <= arr.size) (w : World) :
  (part t arr off).run P w = .ok (pk P t ((arr.toList.drop off).take z)) w:=by
 cases d with
 |zero=>simp[Z2s]at h
 |succ d =>
  have hsz:=Z7n h
  rcases Zgp h with ⟨_,ht,rfl⟩|⟨_,ht⟩
  · have hlt:off<arr.size:=by omega
    have e1:arr[off]? = some arr[off]:=Array.getElem?_eq_getElem hlt
    simp only[part,Y00,Z47 ht,Y01,Y0b,if_false,e1,Y02,pk,ht]
    congr 1
    have:(arr.toList.drop off).take 1=[arr[off]]:=by
     rw[List.drop_eq_getElem_cons (by simpa using hlt)];simp
    rw[this];rfl
  · simp only[part,Y00,Z47 ht,Y01,if_true,Z0D hsz,Y02,pk,ht]
    congr 2
    apply Array.ext'
    simp[List.extract_eq_take_drop,Nat.add_sub_cancel_left]
theorem Z8p{α : Type}[DecidableEq α](xs ys:List α)(off z:Nat):(xs.drop off=ys.drop off) ↔ ((xs.drop off).take z=(ys.drop off).take z/\xs.drop (off+z)=ys.drop (off+z)):=by
 constructor
 ·intro h;exact⟨by rw[h],by rw[<- Y0q,<- Y0q,h]⟩
 · rintro⟨h1,h2⟩
   rw[<- List.take_append_drop z (xs.drop off),<- List.take_append_drop z (ys.drop off),Y0q,Y0q,h1,h2]
theorem Z6H(xs:List (IntKind×Int))(off z:Nat):((iv xs).drop off).take z=iv ((xs.drop off).take z):=by
 simp only[iv,List.map_drop,Y0r]
theorem Zao{xs ys:List (IntKind×Int)}(h:ys.map (·.1)=xs.map (·.1))(off z:Nat):((ys.drop off).take z).map (·.1)=((xs.drop off).take z).map (·.1):=by
 rw[Y0r,List.map_drop,h,<- List.map_drop,<- Y0r]
def Zhl(P:Program)(d:Nat)(t:TypeId)(z:Nat):Prop:=∀xs ys:List (IntKind×Int),xs.length=z->ys.map (·.1)=xs.map (·.1)->∀w,(Op.equalIn d t (pk P t (iv xs)) (pk P t (iv ys))).run P w = .ok (decide (xs=ys)) w
theorem Z6e {m d : Nat} {e : TypeId} {ze : Nat} (he : Z2s P m e = some ze) (ih : Zhl P d e ze) (xs ys : List (IntKind × Int)) (hk : ys.map (·.1) = xs.map (·.1)) (w : World) :
  ∀(k j:Nat),(j+k)*ze=xs.length->(Op.eqItems d e ze (iv xs).toArray (iv ys).toArray (List.range' j k)).run P w = .ok (decide (xs.drop (j*ze)=ys.drop (j*ze))) w
 |0,j,hl=>by
  have hl2:ys.length=xs.length:=by simpa using congrArg List.length hk
  have e1:xs.drop (j*ze)=[]:=Y0w (by rw[<- hl];simp)
  have e2:ys.drop (j*ze)=[]:=Y0w (by rw[hl2,<- hl];simp)
  simp[Op.eqItems,e1,e2]
 |k+1,j,hl=>by
  have hl2:ys.length=xs.length:=by simpa using congrArg List.length hk
  have hle:j*ze+ze<=xs.length:=by
   rw[<- hl];have:(j+(k+1))*ze=j*ze+ze+k*ze:=by rw[Y05,Y05];omega
   omega
  have p1:=Z32 he (iv xs).toArray (j*ze) (by simpa[iv]using hle) w
  have p2:=Z32 he (iv ys).toArray (j*ze) (by simpa[iv,hl2]using hle) w
  simp only[Z6H]at p1 p2
  have q:=ih ((xs.drop (j*ze)).take ze) ((ys.drop (j*ze)).take ze) (by simp;omega) (Zao hk _ _) w
  have r:=Z6e he ih xs ys hk w k (j+1) (by rw[<- hl];congr 1;omega)
  simp only[List.range'_succ,Op.eqItems,Y00,p1,p2,Y01,q]
  rw[show (j+1)*ze=j*ze+ze from by rw[Y05];omega]at r
  by_cases hc:(xs.drop (j*ze)).take ze=(ys.drop (j*ze)).take ze
  · simp only[hc,decide_true,Bool.not_true,Y0b,if_false]
    rw[r]
    congr 1
    rw[decide_eq_decide,Z8p xs ys (j*ze) ze]
    simp[hc]
  · simp only[hc,decide_false,Bool.not_false,if_true,Y02]
    congr 1
    have:¬xs.drop (j*ze)=ys.drop (j*ze):=λh=>hc (by rw[h])
    simp[this]
theorem Z5q {d : Nat} {F : TypeId -> Option Nat} (ih : ∀ t z, F t = some z -> (∃ m, Z2s P m t = some z) /\ Zhl P d t z) (xs ys : List (IntKind × Int)) (hk : ys.map (·.1) = xs.map (·.1)) (w : World) :
  ∀(fs:List Field)(off z:Nat),Z3A F fs off=some z->z=xs.length->(Op.eqFields d (iv xs).toArray (iv ys).toArray fs).run P w = .ok (decide (xs.drop off=ys.drop off)) w
 |[],off,z,h,hz=>by
  simp[Z3A]at h;subst h;subst hz
  have hl2:ys.length=xs.length:=by simpa using congrArg List.length hk
  have e2:ys.drop xs.length=[]:=Y0w (by omega)
  simp[Op.eqFields,e2]
 |f::fs,off,z,h,hz=>by
  simp only[Z3A]at h
  split at h<;>try (simp at h;done)
  rename_i hn
  split at h<;>try (simp at h;done)
  rename_i zf hf
  obtain⟨⟨m,hm⟩,hq⟩:=ih _ _ hf
  have hge:∀(fs:List Field)(off z:Nat),Z3A F fs off=some z->off<=z:=by
   intro fs
   induction fs with
   |nil=>intro off z h;simp[Z3A]at h;omega
   |cons f fs ihf =>
    intro off z h
    simp only[Z3A]at h
    split at h<;>try (simp at h;done)
    split at h<;>try (simp at h;done)
    have:=ihf _ _ h;omega
  have hle:=hge _ _ _ h
  have hl2:ys.length=xs.length:=by simpa using congrArg List.length hk
  have p1:=Z32 hm (iv xs).toArray off (by simp[iv];omega) w
  have p2:=Z32 hm (iv ys).toArray off (by simp[iv];omega) w
  simp only[Z6H]at p1 p2
  have q:=hq ((xs.drop off).take zf) ((ys.drop off).take zf) (by simp;omega) (Zao hk _ _) w
  have r:=Z5q ih xs ys hk w fs (off+zf) z h hz
  simp only[Op.eqFields,hn.1,ne_eq,not_false_eq_true,if_true,hn.2,Y00,p1,p2,Y01,q]
  by_cases hc:(xs.drop off).take zf=(ys.drop off).take zf
  · simp only[hc,decide_true,Bool.not_true,Y0b,if_false]
    rw[r]
    congr 1
    rw[decide_eq_decide,Z8p xs ys off zf]
    simp[hc]
  · simp only[hc,decide_false,Bool.not_false,if_true,Y02]
    congr 1
    have:¬xs.drop off=ys.drop off:=λh=>hc (by rw[h])
    simp[this]
theorem ZbQ:∀(m:Nat){t:TypeId}{z:Nat},Z2s P m t=some z->∀d,m<=d->Zhl P d t z
 |0,t,z,h,d,hd=>by simp[Z2s]at h
 |m+1,t,z,h,0,hd=>by omega
 |m+1,t,z,h,d+1,hd=>by
  intro xs ys hx hy w
  have hl2:ys.length=xs.length:=by simpa using congrArg List.length hy
  unfold Z2s at h
  split at h
  · rename_i k z' hu hz
    split at h<;>simp at h
    subst h;rename_i e;subst e
    have ht:Z4u P t=some false:=by simp[Z4u,hu]
    match xs,ys,hx,hl2,hy with
    |[(k1,a)],[(k2,b)],_,_,hy =>
     simp at hy;subst hy
     simp only[pk,ht,iv,Y09,List.map_nil,List.headD_cons]
     simp only[Op.equalIn,Y00,run_underlying hu,Y01,if_true,Y02]
     congr 1
     by_cases hab:a=b
     ·subst hab;simp
     ·simp[hab]
  · rename_i n e z' hu hz
    split at h<;>try (simp at h;done)
    rename_i ze he
    split at h<;>simp at h
    subst h;rename_i hn
    have ht:Z4u P t=some true:=by simp[Z4u,hu]
    obtain⟨i,hi,hsz⟩:=ZhE (Z7n he)
    simp only[pk,ht]
    rw[run_equalIn_array w d _ _ hu hi]
    have hce:P.cellsOf e=ze:=by simp[Program.cellsOf,hi,hsz]
    rw[hce,List.range_eq_range']
    have:=Z6e he (ZbQ m he d (by omega)) xs ys hy w n 0 (by rw[Y0g,hx];exact hn)
    simpa using this
  · rename_i fs z' hu hz
    split at h<;>try (simp at h;done)
    rename_i hst
    split at h<;>try (simp at h;done)
    rename_i z2 hfs
    split at h<;>simp at h
    subst h;rename_i e;subst e
    have ht:Z4u P t=some true:=by simp[Z4u,hu]
    have hfo:P.fieldsOf t=fs:=by simp[Program.fieldsOf,hu]
    simp only[pk,ht]
    rw[run_equalIn_struct w d t _ _ (by rw[hfo];exact hu) (by simpa using hst),hfo]
    have:=Z5q (P:=P) (d:=d) (λt z hz=>⟨⟨m,hz⟩,ZbQ m hz d (by omega)⟩) xs ys hy w fs.toList 0 _ hfs hx.symm
    simpa using this
  ·simp at h
def Zl3(P:Program)(d:Nat)(t:TypeId)(z:Nat):Prop:=∀(xs:List (IntKind×Int))(b:Bool),xs.length=z->∀w,(Instr.checkKey b d t (pk P t (iv xs))).run P w = .ok () w
theorem Z5P:∀(m:Nat){t:TypeId}{z:Nat},Z2s P m t=some z->∀d,m<=d->Zl3 P d t z
 |0,t,z,h,d,hd=>by simp[Z2s]at h
 |m+1,t,z,h,0,hd=>by omega
 |m+1,t,z,h,d+1,hd=>by
  intro xs b hx w
  unfold Z2s at h
  split at h
  · rename_i k z' hu hz
    simp[Instr.checkKey,run_underlying hu]
  · rename_i n e z' hu hz
    split at h<;>try (simp at h;done)
    rename_i ze he
    split at h<;>simp at h
    subst h;rename_i hn
    have ht:Z4u P t=some true:=by simp[Z4u,hu]
    simp only[pk,ht,Instr.checkKey,Y00,run_underlying hu,Y01]
    simp only[Std.Legacy.Range.forIn_eq_forIn_range',Std.Legacy.Range.size,Y0k,Nat.add_one_sub_one,Nat.div_one]
    have key:∀(k j:Nat),(j+k)*ze=xs.length->(forIn (List.range' j k) PUnit.unit λi _=>(do Instr.checkKey b d e (<- part e (iv xs).toArray (i*(<- sizeOf e)));pure (ForInStep.yield PUnit.unit):Sem (ForInStep PUnit))).run P w = .ok PUnit.unit w:=by
     intro k
     induction k with
     |zero=>intro j hj;simp
     |succ k ihk =>
      intro j hj
      have hle:j*ze+ze<=xs.length:=by
       rw[<- hj];have:(j+(k+1))*ze=j*ze+ze+k*ze:=by rw[Y05,Y05];omega
       omega
      have p1:=Z32 he (iv xs).toArray (j*ze) (by simpa[iv]using hle) w
      simp only[Z6H]at p1
      have q:=Z5P m he d (by omega) ((xs.drop (j*ze)).take ze) b (by simp;omega) w
      have r:=ihk (j+1) (by rw[<- hj];congr 1;omega)
      simp only[List.range'_succ,List.forIn_cons,Y00,Z0D (Z7n he),Y01,p1,q,Y02]
      exact r
    have:=key n 0 (by rw[Y0g,hx];exact hn)
    simp only[bind_pure_comp,map_pure]at this⊢
    rw[this];rfl
  · rename_i fs z' hu hz
    split at h<;>try (simp at h;done)
    rename_i hst
    split at h<;>try (simp at h;done)
    rename_i z2 hfs
    split at h<;>simp at h
    subst h;rename_i e;subst e
    have ht:Z4u P t=some true:=by simp[Z4u,hu]
    simp only[pk,ht,Instr.checkKey,Y00,run_underlying hu,Y01]
    rw[<- Array.forIn_toList]
    have hge:∀(fs:List Field)(off z:Nat),Z3A (Z2s P m) fs off=some z->off<=z:=by
     intro fs
     induction fs with
     |nil=>intro off z h;simp[Z3A]at h;omega
     |cons f fs ihf =>
      intro off z h
      simp only[Z3A]at h
      split at h<;>try (simp at h;done)
      split at h<;>try (simp at h;done)
      have:=ihf _ _ h;omega
    clear hu hz hst
    revert hfs
    generalize fs.toList=L
    generalize 0=off
    intro hfs
    induction L generalizing off with
    |nil=>simp
    |cons f L ihL =>
     simp only[Z3A]at hfs
     split at hfs<;>try (simp at hfs;done)
     rename_i hn
     split at hfs<;>try (simp at hfs;done)
     rename_i zf hf
     have hle:=hge _ _ _ hfs
     have p1:=Z32 hf (iv xs).toArray off (by simp[iv];omega) w
     simp only[Z6H]at p1
     have q:=Z5P m hf d (by omega) ((xs.drop off).take zf) b (by simp;omega) w
     have r:=ihL _ hfs
     simp only[List.forIn_cons,Y00,hn.1,ne_eq,not_false_eq_true,if_true,hn.2,p1,Y01,q,Y02]at r⊢
     exact r
  ·simp at h
end flat
def Z7C(d:TypeDesc)(x y:AV):Option Bool :=
 match d with
 | .int _=>match x,y with | .int k a,.int k' b=>if k=k' then some (a==b) else none|_,_=>none
 | .string=>match x,y with | .str a,.str b=>some (a==b)|_,_=>none
 | .array n _=>match x,y with | .agg xs,.agg ys=>(match Zji n xs,Zji n ys with|true,true=>ZbB xs ys|_,_=>none)|_,_=>none
 |_=>none
def Z42(d:TypeDesc)(k:AV):List (AV×AV×Nat)->Nat->Option (Option (Nat×AV))
 |[],_=>match Zim d k with|true=>some none|false=>none
 |(k',v,_)::es,i =>
  match Z7C d k k' with
  |some true=>some (some (i,v))
  |some false=>Z42 d k es (i+1)
  |none=>none
def Zlb(k v:AV):Nat->List (AV×AV×Nat)->List (AV×AV×Nat)
 |_,[]=>[]
 |0,(_,_,n)::es=>(k,v,n)::es
 |i+1,e::es=>e::Zlb k v i es
def ZfP(H:Z00)(m:AV):Option (List (AV×AV×Nat)) :=
 match m with
 | .nmap=>some []
 | .map b=>match Z7c H b with|some (es,_)=>some es|none=>none
 |_=>none
def Z4G(P:Program)(t:TypeId):Option (TypeDesc×TypeId) :=
 match P.underlying t with
 |some (.map kt e)=>match P.underlying kt with
  |some (.int k)=>some (.int k,e)
  |some .string=>some (.string,e)
  |some (.struct _)=>match Z2s P 6 kt with|some n=>some (.array n kt,e)|none=>none
  |some (.array _ _)=>match Z2s P 6 kt with|some n=>some (.array n kt,e)|none=>none
  |_=>none
 |_=>none
def Z29(P:Program)(t:TypeId)(m k:AV)(ok:Bool)(H:Z00):Option AV :=
 match Z4G P t with
 |some (d,e)=>match ZfP H m with
  |some es=>match Z42 d k es 0 with
   |some (some (_,v))=>some (if ok then .tuple [v,.bool true] else v)
   |some none=>match Z3C P e with
    |some z=>some (if ok then .tuple [z,.bool false] else z)
    |none=>none
   |none=>none
  |none=>none
 |none=>none
def Z41(P:Program)(t:TypeId)(m k v:AV)(H:Z00):Option Z00 :=
 match Z4G P t with
 |some (d,_)=>match m with
  | .map b=>match H[b]? with
   |some o=>match o.alive,o.body with
    |true,.map es clock=>match Z42 d k es 0 with
     |some (some (i,_))=>some ((Z3G b o.fam H).set b { o with body:=.map (Zlb k v i es) clock })
     |some none=>some ((Z3G b o.fam H).set b { o with body:=.map (es++[(k,v,clock)]) (clock+1) })
     |none=>none
    |_,_=>none
   |none=>none
  |_=>none
 |none=>none
def Z7D(P:Program)(t:TypeId)(m k:AV)(H:Z00):Option Z00 :=
 match Z4G P t with
 |some (d,_)=>match m with
  | .map b=>match H[b]? with
   |some o=>match o.alive,o.body with
    |true,.map es clock=>match Z42 d k es 0 with
     |some (some (i,_))=>some ((Z3G b o.fam H).set b { o with body:=.map (es.eraseIdx i) clock })
     |some none=>some ((Z3G b o.fam H).set b { o with body:=.map es clock })
     |none=>none
    |_,_=>none
   |none=>none
  |_=>none
 |none=>none
def Zl1(P:Program)(t:TypeId)(dst src:AV)(H:Z00):Option (AV×Z00) :=
 match P.underlying t with
 |some (.slice e)=>match tsz P e with
  |some z=>match Z2M H z src with
   |some (n,xs)=>match dst with
    | .nslice=>some (.int .i64 0,H)
    | .slice b off len _ z' =>
     if z'=z then
      if Nat.min n len=0 then some (.int .i64 0,H) else
      match tk (Nat.min n len*z) xs with
      |some cs=>match wr H (.ptr b off) cs with
       |some H'=>some (.int .i64 (Nat.min n len),H')
       |none=>none
      |none=>none
     else none
    |_=>none
   |none=>none
  |none=>none
 |_=>none
section eff
variable {P:Program} {sn:Z0l} {ι : Z0i} {H:Z00} {W:World}
theorem ZiH{a b:ByteArray}(h:a.data.toList=b.data.toList):a=b:=by
 apply ByteArray.ext;apply Array.ext';exact h
theorem Zat:∀{n:Nat}{l:List AV},Zji n l=true->∃xs:List (IntKind×Int),xs.length=n/\l=xs.map λp=>.int p.1 p.2
 |0,[],_=>⟨[],rfl,rfl⟩
 |0,_::_,h=>by simp[Zji]at h
 |n+1,[],h=>by simp[Zji]at h
 |n+1,c::l,h=>by
  cases c<;>simp only[Zji]at h<;>try (cases h;done)
  rename_i k a
  obtain⟨xs,h1,h2⟩:=Zat h
  exact⟨(k,a)::xs,by simp[h1],by simp[h2]⟩
theorem Zhk:∀{xs:List (IntKind×Int)}{l:List Value},LR sn ι (xs.map λp=>AV.int p.1 p.2) l->l=iv xs
 |[],l,h=>by simp[LR]at h;subst h;rfl
 |p::xs,l,h=>by
  simp only[Y09,LR]at h
  obtain⟨d,ds,rfl,h1,h2⟩:=h
  rw[h1.int,Zhk h2];rfl
theorem Z83:∀{xs ys:List (IntKind×Int)}{r:Bool},ZbB (xs.map λp=>.int p.1 p.2) (ys.map λp=>.int p.1 p.2)=some r->ys.map (·.1)=xs.map (·.1)/\r=decide (xs=ys)
 |[],[],r,h=>by simp[ZbB]at h;subst h;simp
 |[],_::_,r,h=>by simp[ZbB]at h
 |_::_,[],r,h=>by simp[ZbB]at h
 |(k,a)::xs,(k',b)::ys,r,h=>by
  simp only[Y09,ZbB]at h
  split at h<;>try (simp at h;done)
  rename_i hk
  subst hk
  split at h<;>simp at h
  subst h
  rename_i r' hr
  obtain⟨h1,h2⟩:=Z83 hr
  refine⟨by simp[h1],?_⟩
  rw[h2]
  by_cases hab:a=b
  ·subst hab;simp
  ·simp[hab]
theorem Z7o{kt:TypeId}{n:Nat}(ht:Z4u P kt=some true){k:AV}(hf:Zim (.array n kt) k=true){k':Value}(hk:VR sn ι k k'):∃xs:List (IntKind×Int),xs.length=n/\k = .agg (xs.map λp=>.int p.1 p.2)/\k'=pk P kt (iv xs):=by
 simp only[Zim]at hf
 split at hf<;>try (cases hf;done)
 obtain⟨xs,h1,rfl⟩:=Zat hf
 obtain⟨d,rfl,h2⟩:=hk.agg
 have:=Zhk h2
 refine⟨xs,h1,rfl,?_⟩
 simp only[pk,ht]
 congr 1
 apply Array.ext';simp[this]
theorem Z57:∀(n:Nat)(xs:List (IntKind×Int)),((iv xs).zip (iv xs)).all (λ(x,y)=>Instr.sameBits n x y)=true
 |n,[]=>by simp[iv]
 |n,p::xs=>by
  have:=Z57 n xs
  simp only[iv,Y09,List.zip_cons_cons,List.all_cons,Y0u]at this⊢
  exact⟨by simp[Instr.sameBits],this⟩
theorem ZbC{kt:TypeId}(ht:Z4u P kt=some true)(xs:List (IntKind×Int)):Instr.sameBits 10000 (pk P kt (iv xs)) (pk P kt (iv xs))=true:=by
 simp only[pk,ht,Instr.sameBits,beq_self_eq_true,Bool.true_and]
 exact Z57 _ xs
def KD(P:Program)(kt:TypeId)(d:TypeDesc):Prop:=(P.underlying kt=some d/\((∃k,d = .int k)\/d = .string))\/(∃n,d = .array n kt/\Z2s P 6 kt=some n/\Z4u P kt=some true)
theorem Z7B {d : TypeDesc} (hd : (∃ k, d = .int k) \/ d = .string) {x y : AV} {r : Bool} (h : Z7C d x y = some r) {x' y' : Value} (hx : VR sn ι x x') (hy : VR sn ι y y') :
  Instr.sameNow d x' y'=some r/\(r=true->Instr.sameBits 10000 y' x'=true):=by
 rcases hd with ⟨kk,rfl⟩|rfl
 · simp only[Z7C]at h
   split at h<;>try (simp at h;done)
   split at h<;>simp at h
   subst h;rename_i hk;subst hk
   cases hx.int;cases hy.int
   refine⟨by simp[Instr.sameNow],λhr=>?_⟩
   simp at hr;subst hr;simp[Instr.sameBits]
 · simp only[Z7C]at h
   split at h<;>simp at h
   subst h
   obtain⟨a,rfl,rfl⟩:=hx.str;obtain⟨b,rfl,rfl⟩:=hy.str
   have e:(a==b)=(a.data.toList==b.data.toList):=by rw[beq_toListBytes,ByteArray.toList_eq,ByteArray.toList_eq]
   refine⟨by simp only[Instr.sameNow,e],λhr=>?_⟩
   have:=ZiH (by simpa using hr);subst this
   simp only[Instr.sameBits];rw[e];exact hr
theorem Z8w {n : Nat} {kt : TypeId} (hf : Z2s P 6 kt = some n) (ht : Z4u P kt = some true) {x y : AV} {r : Bool} (h : Z7C (.array n kt) x y = some r) {x' y' : Value} (hx : VR sn ι x x') (hy : VR sn ι y y') :
  (∀w,(Op.equal kt x' y').run P w = .ok r w)/\(r=true->Instr.sameBits 10000 y' x'=true)/\Zim (.array n kt) x=true:=by
 simp only[Z7C]at h
 split at h<;>try (simp at h;done)
 rename_i xs ys
 split at h<;>try (simp at h;done)
 rename_i e1 e2
 have k1:Zim (.array n kt) (.agg xs)=true:=e1
 have k2:Zim (.array n kt) (.agg ys)=true:=e2
 obtain⟨as1,l1,a1,rfl⟩:=Z7o (P:=P) ht k1 hx
 obtain⟨bs,l2,a2,rfl⟩:=Z7o (P:=P) ht k2 hy
 simp only[AV.agg.injEq]at a1 a2
 subst a1;subst a2
 obtain⟨h1,h2⟩:=Z83 h
 refine⟨λw=>by rw[h2];exact ZbQ 6 hf 10000 (by omega) as1 bs l1 h1 w,λhr=>?_,k1⟩
 subst hr
 have:as1=bs:=by simpa using h2.symm
 subst this
 exact ZbC ht as1
open Classical in
def Z4S(P:Program)(kt:TypeId)(d:TypeDesc)(k:Value)(l:List MapEntry)(i:Nat)(r:Option (Nat×Value)):Prop :=
 if (∃n,d = .array n kt) then (∀w,(Instr.findAsking kt k l i).run P w = .ok r w) else Instr.findNow d k l i=some r
theorem Z19 {kt : TypeId} {d : TypeDesc} (hd : KD P kt d) {k : AV} {k' : Value} (hk : VR sn ι k k') : ∀ (es : List (AV × AV × Nat)) (i : Nat) (r : Option (Nat × AV)), Z42 d k es i = some r -> ∀ (l : List MapEntry), ER sn ι es l ->
  Zim d k=true/\match r with
  |none=>Z4S P kt d k' l i none
  |some (j,v)=>∃v' x,Z4S P kt d k' l i (some (j,v'))/\VR sn ι v v'/\i<=j/\l[j-i]? = some x/\Instr.sameBits 10000 x.key k'=true
 |[],i,r,h,l,hl=>by
  simp only[Z42]at h
  split at h<;>simp at h
  subst h;rename_i hfit
  refine⟨hfit,?_⟩
  simp[ER]at hl;subst hl
  simp only[Z4S]
  split
  ·intro w;simp[Instr.findAsking]
  ·simp[Instr.findNow]
 |(k2,v,n)::es,i,r,h,l,hl=>by
  simp only[ER]at hl;obtain⟨x,l',rfl,h1,h2,h3,h4⟩:=hl
  simp only[Z42]at h
  rcases hd with ⟨hd1,hd2⟩|⟨m,rfl,hd1,hd2⟩
  · have hna:¬ ∃n,d = .array n kt:=by rintro⟨n,rfl⟩;rcases hd2 with ⟨_,e⟩|e<;>cases e
    have hfit:Zim d k=true:=by rcases hd2 with ⟨kk,rfl⟩|rfl<;>rfl
    split at h
    · rename_i hs
      obtain⟨e1,e2⟩:=Z7B hd2 hs hk h1
      simp at h;subst h
      exact⟨hfit,x.val,x,by simp only[Z4S,if_neg hna];simp[Instr.findNow,e1],h2,Y03 _,by simp,e2 rfl⟩
    · rename_i hs
      obtain⟨e1,_⟩:=Z7B hd2 hs hk h1
      have ih:=(Z19 (.inl ⟨hd1,hd2⟩) hk es (i+1) r h l' h4).2
      refine⟨hfit,?_⟩
      cases r with
      |none=>simp only[Z4S,if_neg hna]at ih⊢;simpa[Instr.findNow,e1]using ih
      |some jv =>
       obtain⟨j,v⟩:=jv
       obtain⟨v',x',i1,i2,i3,i4,i5⟩:=ih
       refine⟨v',x',?_,i2,by omega,?_,i5⟩
       ·simp only[Z4S,if_neg hna]at i1⊢;simpa[Instr.findNow,e1]using i1
       ·rw[show j-i=(j-(i+1))+1 from by omega];simpa using i4
    ·simp at h
  · have hya:∃n,TypeDesc.array m kt = .array n kt:=⟨m,rfl⟩
    split at h
    · rename_i hs
      obtain⟨e1,e2,e3⟩:=Z8w hd1 hd2 hs hk h1
      simp at h;subst h
      exact⟨e3,x.val,x,by simp only[Z4S,if_pos hya];intro w;simp[Instr.findAsking,e1],h2,Y03 _,by simp,e2 rfl⟩
    · rename_i hs
      obtain⟨e1,_,e3⟩:=Z8w hd1 hd2 hs hk h1
      have ih:=(Z19 (.inr ⟨m,rfl,hd1,hd2⟩) hk es (i+1) r h l' h4).2
      refine⟨e3,?_⟩
      cases r with
      |none=>simp only[Z4S,if_pos hya]at ih⊢;intro w;simp[Instr.findAsking,e1,ih]
      |some jv =>
       obtain⟨j,v⟩:=jv
       obtain⟨v',x',i1,i2,i3,i4,i5⟩:=ih
       refine⟨v',x',?_,i2,by omega,?_,i5⟩
       ·simp only[Z4S,if_pos hya]at i1⊢;intro w;simp[Instr.findAsking,e1,i1]
       ·rw[show j-i=(j-(i+1))+1 from by omega];simpa using i4
    ·simp at h
theorem Z3R{t:TypeId}{d:TypeDesc}{e:TypeId}(h:Z4G P t=some (d,e)):∃kt,P.underlying t=some (.map kt e)/\KD P kt d:=by
 unfold Z4G at h
 split at h<;>try (simp at h;done)
 rename_i kt e' ht
 split at h<;>try (simp at h;done)
 ·simp at h;obtain⟨rfl,rfl⟩:=h;exact⟨kt,ht,.inl ⟨by assumption,.inl ⟨_,rfl⟩⟩⟩
 ·simp at h;obtain⟨rfl,rfl⟩:=h;exact⟨kt,ht,.inl ⟨by assumption,.inr rfl⟩⟩
 · rename_i hu
   split at h<;>simp at h
   obtain⟨rfl,rfl⟩:=h
   exact⟨kt,ht,.inr ⟨_,rfl,by assumption,by simp[Z4u,hu]⟩⟩
 · rename_i hu
   split at h<;>simp at h
   obtain⟨rfl,rfl⟩:=h
   exact⟨kt,ht,.inr ⟨_,rfl,by assumption,by simp[Z4u,hu]⟩⟩
theorem Z1l{kt:TypeId}{d:TypeDesc}(hd:KD P kt d){k:AV}(hf:Zim d k=true){v:Value}(hk:VR sn ι k v)(b:Bool)(w:World):(Instr.checkKey b 10000 kt v).run P w = .ok () w:=by
 rcases hd with ⟨hd,h⟩|⟨n,rfl,h1,h2⟩
 · have key : ∀ n, (Instr.checkKey b (n + 1) kt v).run P w = .ok () w := fun n => by
    rcases h with ⟨k,rfl⟩|rfl<;>simp[Instr.checkKey,run_underlying hd]
   exact key 9999
 · obtain⟨xs,l1,_,rfl⟩:=Z7o (P:=P) h2 hf hk
   exact Z5P 6 h1 10000 (by omega) xs b l1 w
theorem Z1j{kt:TypeId}{d:TypeDesc}(hd:KD P kt d){k:Value}{es:List MapEntry}{r:Option (Nat×Value)}(h:Z4S P kt d k es 0 r)(w:World):(Instr.findKey kt k es).run P w = .ok r w:=by
 rcases hd with ⟨hd,h2⟩|⟨n,rfl,h1,h2⟩
 · have hna:¬ ∃n,d = .array n kt:=by rintro⟨n,rfl⟩;rcases h2 with ⟨_,e⟩|e<;>cases e
   simp only[Z4S,if_neg hna]at h
   simp[Instr.findKey,run_underlying hd,h]
 · simp only[Z4S,if_pos (⟨n,rfl⟩:∃m,TypeDesc.array n kt = .array m kt)]at h
   have hu:∃d,P.underlying kt=some d/\∀x y,Instr.sameNow d x y=none:=by
    unfold Z4u at h2
    split at h2
    ·exact⟨_,by assumption,λx y=>by simp[Instr.sameNow]⟩
    ·exact⟨_,by assumption,λx y=>by simp[Instr.sameNow]⟩
    ·simp at h2
    ·simp at h2
   obtain⟨d,hu,hs⟩:=hu
   cases es with
   |nil =>
    have:=h w
    simp[Instr.findAsking]at this
    subst this
    simp[Instr.findKey,run_underlying hu,Instr.findNow]
   |cons x es=>simp[Instr.findKey,run_underlying hu,Instr.findNow,hs,h]
theorem Z9p (hR : RO sn ι H W) {t : TypeId} {m k u : AV} {ok : Bool} (h : Z29 P t m k ok H = some u) {m' k' : Value} (hm : VR sn ι m m') (hk : VR sn ι k k') :
  ∃z,(Instr.lookup t m' k' ok).run P W = .ok z W/\VR sn ι u z:=by
 unfold Z29 at h
 split at h<;>try (simp at h;done)
 rename_i d e hd
 obtain⟨kt,ht,hkd⟩:=Z3R hd
 split at h<;>try (simp at h;done)
 rename_i es hes
 have hent:∃mes:Array MapEntry,ER sn ι es mes.toList/\((m' = .map none/\mes = #[])\/∃r clock,m' = .map (some r)/\W.heap[r]? = some (.map mes clock)):=by
  unfold ZfP at hes
  split at hes
  ·simp at hes;subst hes;exact⟨#[],by simp[ER],.inl ⟨hm.nmap,rfl⟩⟩
  · split at hes<;>simp at hes
    subst hes;rename_i clock hmo
    obtain⟨o,p,mes,_,_,_,hp,hw,he⟩:=Z69 hR hmo
    obtain⟨q,hq,rfl⟩:=hm.map
    rw[hp]at hq;simp at hq;subst hq
    exact⟨mes,he,.inr ⟨_,_,rfl,hw⟩⟩
  ·simp at hes
 obtain⟨mes,he,hcase⟩:=hent
 have fin:∀(v:AV)(v':Value)(b:Bool),VR sn ι v v'->VR sn ι (if ok then .tuple [v,.bool b] else v) (if ok then .tuple #[v',.bool b] else v'):=by
  intro v v' b hv
  split
  ·exact Z45 (by simp only[LR];exact⟨_,_,rfl,hv,_,_,rfl,Zf6 b,rfl⟩)
  ·exact hv
 split at h
 · rename_i i v hf
   simp at h;subst h
   obtain⟨f0,v',x,f1,f2,_⟩:=Z19 (P:=P) hkd hk es 0 _ hf _ he
   have hck:=λb w=>Z1l (P:=P) hkd f0 hk b w
   refine⟨_,?_,fin v v' true f2⟩
   rcases hcase with ⟨rfl,rfl⟩|⟨r,clock,rfl,hw⟩
   · have hes0 : es = [] := by
      cases es with
      |nil=>rfl
      |cons e es=>obtain⟨k1,v1,n1⟩:=e;simp only[ER]at he;obtain⟨_,_,h0,_⟩:=he;simp at h0
     subst hes0
     simp only[Z42]at hf
     split at hf<;>simp at hf
   ·simp only[Instr.lookup,Y00,run_underlying ht,Y01,hck,Z1j hkd f1,Y02,getObj,Sem.run,hw]
 · rename_i hf
   split at h<;>simp at h
   subst h;rename_i z hz
   obtain⟨z',h1,h2⟩:=Z2P hz
   have f01:=Z19 (P:=P) hkd hk es 0 _ hf _ he
   have hck:=λb w=>Z1l (P:=P) hkd f01.1 hk b w
   have f1:Z4S P kt d k' mes.toList 0 none:=f01.2
   refine⟨_,?_,fin z z' false (h2 sn ι)⟩
   rcases hcase with ⟨rfl,rfl⟩|⟨r,clock,rfl,hw⟩
   ·simp only[Instr.lookup,Y00,run_underlying ht,Y01,hck,Z1j hkd f1,Y02,h1]
   ·simp only[Instr.lookup,Y00,run_underlying ht,Y01,hck,Z1j hkd f1,Y02,h1,getObj,Sem.run,hw]
 ·simp at h
theorem Zho {k v : AV} {k' v' : Value} (hk : VR sn ι k k') (hv : VR sn ι v v') : ∀ (es : List (AV × AV × Nat)) (l : List MapEntry) (i : Nat), ER sn ι es l ->
  ER sn ι (Zlb k v i es) (l.modify i λe=>{ e with key:=k',val:=v' })
 |[],l,i,h=>by simp[ER]at h;subst h;cases i<;>simp[Zlb,ER]
 |(a,b,n)::es,l,i,h=>by
  simp only[ER]at h;obtain⟨x,l',rfl,h1,h2,h3,h4⟩:=h
  cases i with
  |zero=>simp only[Zlb,ER,List.modify_zero_cons];exact⟨_,_,rfl,hk,hv,h3,h4⟩
  |succ i=>simp only[Zlb,ER,List.modify_succ_cons];exact⟨_,_,rfl,h1,h2,h3,Zho hk hv es l' i h4⟩
theorem Zhq{es:List (AV×AV×Nat)}{l:List MapEntry}(h:ER sn ι es l){k v:AV}{x:MapEntry}(hk:VR sn ι k x.key)(hv:VR sn ι v x.val):ER sn ι (es++[(k,v,x.born)]) (l++[x]):=by
 induction es generalizing l with
 |nil=>simp[ER]at h;subst h;simp only[List.nil_append,ER];exact⟨x,[],rfl,hk,hv,rfl,rfl⟩
 |cons e es ih =>
  obtain⟨a,b,n⟩:=e
  simp only[ER]at h;obtain⟨y,l',rfl,h1,h2,h3,h4⟩:=h
  simp only[List.cons_append,ER];exact⟨y,_,rfl,h1,h2,h3,ih h4⟩
theorem Z3d{r:Nat}{ob:Obj}:Turn W { W with heap:=W.heap.setIfInBounds r ob } r :=
 ⟨λc hc=>by simp[Y0l,Ne.symm hc],by simp,rfl,rfl,rfl⟩
theorem Z5x (hR : R sn ι H W) {t : TypeId} {m k x : AV} {H' : Z00} (h : Z41 P t m k x H = some H') {m' k' x' : Value} (hm : VR sn ι m m') (hk : VR sn ι k k') (hx : VR sn ι x x') :
  ∃W',(Instr.mapUpdate t m' k' x').run P W = .ok () W'/\Stp sn ι H W sn ι H' W':=by
 unfold Z41 at h
 split at h<;>try (simp at h;done)
 rename_i d e hd
 obtain⟨kt,ht,hkd⟩:=Z3R hd
 split at h<;>try (simp at h;done)
 rename_i b
 split at h<;>try (simp at h;done)
 rename_i o ho
 split at h<;>try (simp at h;done)
 rename_i es clock hal hbd
 obtain⟨p,hp,rfl⟩:=hm.map
 have hob:=hR.obj b o p ho hal hp
 rw[hbd]at hob;simp only[OR]at hob
 obtain⟨mes,hw,he⟩:=hob
 have hlt:p.blk<W.heap.size:=hR.blk b p hp
 split at h
 · rename_i i v hf
   simp at h;subst h
   obtain⟨f0,v',y,f1,f2,_,f4,f5⟩:=Z19 (P:=P) hkd hk es 0 _ hf _ he
   have hck:=λb w=>Z1l (P:=P) hkd f0 hk b w
   simp only[Y0k]at f4
   have hy:mes[i]? = some y:=by rw[<- Y08];exact f4
   refine⟨{ W with heap:=W.heap.setIfInBounds p.blk (.map (mes.modify i λe=>{ e with key:=k',val:=x' }) clock) },?_,?_⟩
   · simp only[Instr.mapUpdate,Y00,run_underlying ht,Y01,getObj,Sem.run,hw,hck,Z1j hkd f1,hy,Option.map_some,Option.getD_some,Instr.keyThatStays,f5,if_true,setObj]
     simp[hw]
   · refine Stp.write hR ho hal hp Z3d _ ?_
     refine⟨_,by simp[Y0l,hlt];rfl,?_⟩
     rw[Array.toList_modify]
     exact Zho hk hx es _ i he
 · rename_i hf
   simp at h;subst h
   have f01:=Z19 (P:=P) hkd hk es 0 _ hf _ he
   have hck:=λb w=>Z1l (P:=P) hkd f01.1 hk b w
   have f1:Z4S P kt d k' mes.toList 0 none:=f01.2
   refine⟨{ W with heap:=W.heap.setIfInBounds p.blk (.map (mes.push { key:=k',val:=x',born:=clock }) (clock+1)) },?_,?_⟩
   ·simp only[Instr.mapUpdate,Y00,run_underlying ht,Y01,getObj,Sem.run,hw,hck,Z1j hkd f1,setObj]
   · refine Stp.write hR ho hal hp Z3d _ ?_
     refine⟨_,by simp[Y0l,hlt];rfl,?_⟩
     rw[Array.toList_push]
     exact Zhq (x:={ key:=k',val:=x',born:=clock }) he hk hx
 ·simp at h
theorem ZdT:∀(es:List (AV×AV×Nat))(l:List MapEntry)(i:Nat),ER sn ι es l->ER sn ι (es.eraseIdx i) (l.eraseIdx i)
 |[],l,i,h=>by simp[ER]at h;subst h;simp[ER]
 |(a,b,n)::es,l,i,h=>by
  simp only[ER]at h;obtain⟨x,l',rfl,h1,h2,h3,h4⟩:=h
  cases i with
  |zero=>simpa using h4
  |succ i=>simp only[List.eraseIdx_cons_succ,ER];exact⟨_,_,rfl,h1,h2,h3,ZdT es l' i h4⟩
theorem Z9o (hR : R sn ι H W) {t ty t2 : TypeId} {m k : AV} {H' : Z00} (h : Z7D P t m k H = some H') {m' k' : Value} (hm : VR sn ι m m') (hk : VR sn ι k k') :
  ∃W',(Builtin.delete_ #[t,t2] ty #[m',k']).run P W = .ok (.tuple #[]) W'/\Stp sn ι H W sn ι H' W':=by
 unfold Z7D at h
 split at h<;>try (simp at h;done)
 rename_i d e hd
 obtain⟨kt,ht,hkd⟩:=Z3R hd
 split at h<;>try (simp at h;done)
 rename_i b
 split at h<;>try (simp at h;done)
 rename_i o ho
 split at h<;>try (simp at h;done)
 rename_i es clock hal hbd
 obtain⟨p,hp,rfl⟩:=hm.map
 have hob:=hR.obj b o p ho hal hp
 rw[hbd]at hob;simp only[OR]at hob
 obtain⟨mes,hw,he⟩:=hob
 have hlt:p.blk<W.heap.size:=hR.blk b p hp
 split at h
 · rename_i i v hf
   simp at h;subst h
   obtain⟨f0,v',y,f1,f2,_,f4,f5⟩:=Z19 (P:=P) hkd hk es 0 _ hf _ he
   have hck:=λb w=>Z1l (P:=P) hkd f0 hk b w
   have hsub:(mes.eraseIdxIfInBounds i).toList=mes.toList.eraseIdx i:=by
    unfold Array.eraseIdxIfInBounds
    split
    ·simp
    · rename_i hge
      rw[List.eraseIdx_of_length_le]
      simpa using hge
   refine⟨{ W with heap:=W.heap.setIfInBounds p.blk (.map (mes.eraseIdxIfInBounds i) clock) },?_,?_⟩
   ·simp[Builtin.delete_,run_underlying ht,getObj,Sem.run,hw,hck,Z1j hkd f1,setObj]
   · refine Stp.write hR ho hal hp Z3d _ ?_
     refine⟨_,by simp[Y0l,hlt];rfl,?_⟩
     rw[hsub]
     exact ZdT es _ i he
 · rename_i hf
   simp at h;subst h
   have f01:=Z19 (P:=P) hkd hk es 0 _ hf _ he
   have hck:=λb w=>Z1l (P:=P) hkd f01.1 hk b w
   have f1:Z4S P kt d k' mes.toList 0 none:=f01.2
   refine⟨{ W with heap:=W.heap.setIfInBounds p.blk (.map mes clock) },?_,?_⟩
   ·simp[Builtin.delete_,run_underlying ht,getObj,Sem.run,hw,hck,Z1j hkd f1,setObj]
   · refine Stp.write hR ho hal hp Z3d _ ?_
     exact⟨mes,by simp[Y0l,hlt],he⟩
 ·simp at h
theorem Z3K (hR : R sn ι H W) {z n m : Nat} {x : AV} {xs cs : List AV} (h : Z2M H z x = some (n, xs)) (hm : m <= n) (hc : tk (m * z) xs = some cs) {x' : Value} (hx : VR sn ι x x') :
  ∃news:List Value,LR sn ι cs news/\(Builtin.lenOf x').run P W = .ok n W/\(Builtin.firstCells z m x').run P W = .ok news.toArray W:=by
 obtain⟨htl,rfl⟩:=Z3J hc
 obtain⟨news,k1,k2,k3,k4⟩:=Z61 (P:=P) hR h hx
 refine⟨news.take (m*z),k1.take _,k3 W,?_⟩
 unfold Z2M at h
 split at h
 · simp at h;obtain⟨rfl,rfl⟩:=h;cases hx.nslice
   simp[LR]at k1;subst k1;simp[Builtin.firstCells]
 · split at h<;>try (simp at h;done)
   rename_i b off len cap z' hz;subst hz
   split at h<;>simp at h
   obtain⟨rfl,rfl⟩:=h;rename_i cs hcs
   obtain⟨p,a,cap',hp,rfl,hlc,hcc,hne⟩:=hx.slice
   obtain⟨g,o,vs,e,h1,h2,h3⟩:=Z59 hR.ro hcs (v:=.pointer (some ⟨p.blk,p.sh+off,none⟩)) (by simp only[VR];exact⟨p,hp,rfl⟩)
   simp at e;obtain⟨rfl,rfl⟩:=e
   have hfull:=k4 W λ_=>rfl
   by_cases hc0:cap'=0
   · have h0:len=0:=by omega
     have hm0:m=0:=by omega
     subst hm0;simp[Builtin.firstCells,loadCells,loadCellsFrom]
   · obtain⟨rfl,_⟩:=hne hc0
     rw[run_firstCells_some W z' len _ len cap' vs h2 λj v hj=>h3 j v hj]at hfull
     simp at hfull;subst hfull
     exact run_firstCells_some W z' m _ len cap' (vs.take (m*z')) (by rw[Y0t,h2];exact Nat.min_eq_left (Y0f _ hm)) λj v hj=>by
      rw[Y0a]at hj;split at hj
      ·exact h3 j v hj
      ·simp at hj
 · split at h<;>simp at h
   obtain⟨rfl,rfl⟩:=h
   rename_i n z' cs hz;subst hz
   rcases hx.rs with ⟨rfl,rfl,rfl⟩|⟨⟨b,o,sp⟩,cap,rfl,hc',hcs,hmr,hsp⟩
   · have hm0:m=0:=by omega
     subst hm0;simp[Builtin.firstCells]
   obtain⟨vs,h1,h2⟩:=hmr.cells hR
   have hsp':∀(j:Nat)(v:Value),vs[j]? = some v->sp=none:=λj v hj=>hsp λh0=>by
    have:=(Y04.1 hj).1
    rw[h1.length,hcs,h0,Nat.zero_mul]at this;omega
   have hfull:=k4 W λ_=>rfl
   rw[run_firstCells_some W z' n _ n cap vs (by rw[h1.length,hcs]) λj v hj=>by cases hsp' j v hj;rw[Z0I];exact h2 j v hj]at hfull
   simp at hfull;subst hfull
   exact run_firstCells_some W z' m _ n cap (vs.take (m*z')) (by rw[Y0t,h1.length,hcs];exact Nat.min_eq_left (Y0f _ hm)) λj v hj=>by
    rw[Y0a]at hj;split at hj
    ·cases hsp' j v hj;rw[Z0I];exact h2 j v hj
    ·simp at hj
 · split at h<;>simp at h
   obtain⟨rfl,rfl⟩:=h
   rename_i s hz;subst hz
   obtain⟨ba,rfl,rfl⟩:=hx.str
   have hfull:=k4 W λ_=>rfl
   have hsz:ba.data.toList.length=ba.size:=by cases ba;rfl
   simp only[Builtin.firstCells,Y02]at hfull⊢
   congr 1
   injection hfull with hfull _
   apply Array.ext'
   rw[Y0c,Lib.extract_data,List.drop_zero,Y0k,Nat.mul_one]
   have:=congrArg Array.toList hfull
   rw[Y0c,Lib.extract_data,List.drop_zero,Y0k]at this
   simp only[List.toList_toArray]at this⊢
   rw[<- this,List.take_length,Y0r]
 ·simp at h
theorem Zcj (hR : R sn ι H W) {t t2 ty : TypeId} {dst src r : AV} {H' : Z00} (h : Zl1 P t dst src H = some (r, H')) {d' s' : Value} (hd : VR sn ι dst d') (hs : VR sn ι src s') :
  ∃v W',(Builtin.copy_ #[t,t2] ty #[d',s']).run P W = .ok v W'/\VR sn ι r v/\Stp sn ι H W sn ι H' W':=by
 unfold Zl1 at h
 split at h<;>try (simp at h;done)
 rename_i e ht
 split at h<;>try (simp at h;done)
 rename_i z hz
 split at h<;>try (simp at h;done)
 rename_i n xs hxs
 have hzero:∃news:List Value,LR sn ι [] news/\(Builtin.lenOf s').run P W = .ok n W/\(Builtin.firstCells z 0 s').run P W = .ok news.toArray W :=
  Z3K hR hxs (Nat.zero_le _) (by simp[tk]) hs
 obtain⟨nz,z1,z2,z3⟩:=hzero
 simp[LR]at z1;subst z1
 split at h
 · simp at h;obtain⟨rfl,rfl⟩:=h
   cases hd.nslice
   refine⟨goInt 0,W,?_,Z62 _ _,Stp.refl hR⟩
   have:Nat.min n 0=0:=Nat.min_zero n
   simp[Builtin.copy_,run_underlying ht,z2,Z0D hz,this,z3]
 · rename_i b off len cap z'
   split at h<;>try (simp at h;done)
   rename_i hzz;subst hzz
   obtain⟨p,a,cap',hp,rfl,hlc,hcc,hne⟩:=hd.slice
   split at h
   · rename_i h0
     simp at h;obtain⟨rfl,rfl⟩:=h
     refine⟨goInt 0,W,?_,Z62 _ _,Stp.refl hR⟩
     have h0':Nat.min n len=0:=h0
     simp[Builtin.copy_,run_underlying ht,z2,h0',Z0D hz,z3,storeCells]
   · rename_i h0
     split at h<;>try (simp at h;done)
     rename_i cs hcs
     split at h<;>simp at h
     rename_i H1 hw
     obtain⟨rfl,rfl⟩:=h
     have hlen0:cap'≠0:=by
      intro hc
      have:len=0:=by omega
      subst this;exact h0 (Nat.min_zero n)
     obtain⟨rfl,hbb⟩:=hne hlen0
     obtain⟨news,k1,k2,k3⟩:=Z3K (P:=P) hR hxs (Nat.min_le_left _ _) hcs hs
     obtain⟨ad,W',e1,hst,hstp⟩:=Z6u (P:=P) hR hw (a':=.pointer (some ⟨p.blk,p.sh+off,none⟩)) (by simp only[VR];exact⟨p,hp,rfl⟩) k1
     simp at e1;subst e1
     refine⟨goInt (Nat.min n len),W',?_,Z62 _ _,hstp⟩
     simp[Builtin.copy_,run_underlying ht,k2,Z0D hz,k3,hst]
 ·simp at h
end eff
end Go.Abs
end
section
namespace Go.Abs
open Go.RowKit
mutual
def Z0z:AV->List Nat->List Nat
 | .ptr b _,acc=>b::acc
 | .slice b _ _ _ _,acc=>b::acc
 | .map b,acc=>b::acc
 | .func _ f c,acc=>refsL f (refsL c acc)
 | .iface _ v,acc=>Z0z v acc
 | .agg cs,acc=>refsL cs acc
 | .tuple cs,acc=>refsL cs acc
 | .bool _,acc=>acc
 | .int _ _,acc=>acc
 | .str _,acc=>acc
 | .nptr,acc=>acc
 | .rp _,acc=>acc
 | .nslice,acc=>acc
 | .rs _ _ _,acc=>acc
 | .nmap,acc=>acc
 | .nfunc,acc=>acc
 | .niface,acc=>acc
def refsL:List AV->List Nat->List Nat
 |[],acc=>acc
 |v::l,acc=>Z0z v (refsL l acc)
end
def Z9U:List (AV×AV×Nat)->List Nat->List Nat
 |[],acc=>acc
 |(k,v,_)::es,acc=>Z0z k (Z0z v (Z9U es acc))
def Ze7:List (Nat×AV)->List Nat->List Nat
 |[],acc=>acc
 |x::l,acc=>Z0z x.2 (Ze7 l acc)
def Z6m:ABody->List Nat->List Nat
 | .cells cs _,acc=>refsL cs acc
 | .map es _,acc=>Z9U es acc
 | .siter _ _,acc=>acc
 | .loop _ ts,acc=>Ze7 ts acc
def mem(i:Nat):List Nat->Bool
 |[]=>false
 |j::l=>Y06 i j || mem i l
theorem Z0W{i:Nat}:∀{l:List Nat},mem i l=true ↔ i∈l
 |[]=>by simp[mem]
 |j::l=>by simp[mem,Z0W (l:=l),Nat.beq_eq]
end Go.Abs
end

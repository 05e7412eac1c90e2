/-
  Texts of this proof, one behind the other (part 8).
-/
import Derived.Test.YtneoiadnbikciaaGreatDoorXp7
set_option linter.unusedVariables false
set_option linter.unusedSimpArgs false
set_option maxRecDepth 100000
set_option maxHeartbeats 4000000
open Go.Proofs.Tryz renaming prog → Y00,func4 → Y08,underlying9 → Y0j
open Nat renaming zero_le → Y01,le_refl → Y09,eq_zero_or_pos → Y0c,lt_succ_self → Y0g
open And renaming intro → Y02
open List renaming getElem?_map → Y03,getElem?_eq_getElem → Y04,length_append → Y05,take_length → Y06,cons_append → Y0b,getElem?_append_left → Y0d,getElem?_append_right → Y0e,nil_append → Y0f,length_cons → Y0h,map_append → Y0i
open Bool renaming true_and → Y07,and_eq_true → Y0a
namespace Go.Proofs.YtneoiadnbikciaaGreatDoor.lex
open Go.Abs Go.RowKit
section
theorem Zgl{t:Tk}(h:Zpf t):t.kind≠5:=by
 obtain⟨h1,-⟩:=h
 intro hk
 rw[hk]at h1
 unfold Z50 at h1
 split at h1
 · simp only[Option.some.injEq,Prod.mk.injEq]at h1
   have:=h1.1
   split at this<;>omega
 · split at h1
   ·simp at h1
   ·split at h1<;>simp at h1
theorem Z82{l:List Tk}{n i:Nat}(h:i<l.length):Z51 (Z1q l n) i=l[i].q:=by
 unfold Z51 Z1q
 rw[Y03,Y0d h,Y04 h]
 rfl
theorem ZdS{l:List Tk}{n:Nat}:(Z51 (Z1q l n) l.length).kind=5:=by
 unfold Z51 Z1q
 rw[Y03,Y0e (Y09 _),Nat.sub_self]
 rfl
def Z9c(l:List Tk)(n:Nat)(d:List Dc)(t:List (List St)):Prop:=Run (Z1q l n) s0 d t ⟨l.length,0,0,0⟩
theorem Z7C{s:List UInt8}(hs:s.length<=65536)(h:(Z2z s Z53).1=0):∃l,Z6q s = .inr l/\Z9c l s.length (Z0J s).decls (Z0J s).threads:=by
 obtain⟨l,h1,h2,⟨h3,h4,h5⟩,h6,h7,h8⟩:=Zbh hs h
 have hg:PsOK (Z2v s) (Z53 (Z2v s)):=Z2U _ _ _ _ h5
 obtain⟨d,t,r1,r2⟩:=Z7D h4 ((Z2v s).length+1) [] [] s0 h6 hg.lt
 have r3:Z2A (Z2v s)=((d,t),Z53 (Z2v s)):=Prod.ext (by rw[Y0f,Y0f]at r2;exact r2) rfl
 obtain⟨f1,f2,f3,f4⟩:=r1.facts h4
 obtain⟨f5,f6⟩:(Z53 (Z2v s)).op=0/\(Z53 (Z2v s)).at_=0:=f4 hg.lt
 refine⟨l,h1,?_⟩
 have hp:Z0J s=⟨d,t⟩:=by unfold Z0J;rw[r3]
 rw[hp]
 unfold Z9c
 rw[h2]at r1 h7 hg h6 f5 f6 f1
 have hi:(Z53 (Z1q l s.length)).i=l.length:=by
  have:=hg.lt
  rw[Z2u]at this
  rcases Nat.lt_or_ge (Z53 (Z1q l s.length)).i l.length with hlt|hge
  · exfalso
    rw[Z5b,Z82 hlt]at h7
    exact Zgl (ZcV _ _ _ _ h1 _ (List.getElem_mem hlt)) (by have:((l[(Z53 (Z1q l s.length)).i].kind:Nat):Int)=5:=h7;omega)
  ·omega
 have he:Z53 (Z1q l s.length)=⟨l.length,0,0,0⟩:=by
  generalize Z53 (Z1q l s.length)=E at *
  obtain⟨i,e,a,o⟩:=E
  simp only at hi h6
  subst hi h6
  have e1:o=0:=f5
  have e2:a=0:=f6
  rw[e1,e2]
 have:Run (Z1q l s.length) s0 d t (Z53 (Z1q l s.length)):=r1
 rw[he]at this
 exact this
theorem Zek{s:List UInt8}(hs:s.length<=65536){l:List Tk}(hl:Z6q s = .inr l){d:List Dc}{t:List (List St)}(h:Z9c l s.length d t):(Z2z s Z53).1=0/\Z0J s=⟨d,t⟩:=by
 have hW:=Z7Z hl hs s.length
 have hx:Z2v s=Z1q l s.length:=by unfold Z2v;rw[hl]
 have h1:=Zjm hW h rfl (by rw[Z2u];exact Y0g _) ZdS ((Z1q l s.length).length+1) [] [] (by show _<=0+_;omega)
 have h2:Z2A (Z1q l s.length)=((d,t),⟨l.length,0,0,0⟩):=h1
 have h3:Z53 (Z1q l s.length)=⟨l.length,0,0,0⟩:=by unfold Z53;rw[h2]
 refine⟨?_,by unfold Z0J;rw[hx,h2]⟩
 unfold Z2z
 rw[hl]
 show (Z49 (Z1q l s.length) (Z53 (Z1q l s.length))).err=0
 rw[h3]
 unfold Z49
 rw[if_neg]
 rintro⟨-,hk⟩
 exact hk ZdS
theorem Za3{T:List Tq}(hT:TqW T){s E:Ps}{d:List Dc}{t:List (List St)}(h:Run T s d t E)(hi:E.i=s.i):d=[]/\t=[]/\E=s:=by
 cases h with
 |nil=>exact⟨rfl,rfl,rfl⟩
 |cons h r =>
  have:=(h.facts hT).2.2.1
  have:=(r.facts hT).1
  omega
def Tk.v(t:Tk):Nat×List UInt8×Nat:=(t.kind,t.text,t.num)
theorem Ziw{l m:List Tk}{n n' k:Nat}{c:Nat}(hk:∀i,i<c->∃ (h:i<l.length) (h':i+k<m.length),m[i+k].v=l[i].v)(hc:0<c)(h1:c<=l.length)(h2:c+k<=m.length):Agr (Z1q l n) (Z1q m n') k (c-1):=by
 refine⟨λi hi=>?_,by rw[Z2u];omega,by rw[Z2u];omega⟩
 obtain⟨a,b,e⟩:=hk i (by omega)
 rw[Z82 a,Z82 b]
 simp only[Tk.v,Prod.mk.injEq]at e
 simp only[Tk.q]
 rw[e.1,e.2.1,e.2.2]
 exact⟨rfl,rfl,rfl⟩
theorem ZgN{la lb m:List Tk}{na nb n:Nat}(hTa:TqW (Z1q la na))(hTb:TqW (Z1q lb nb))(hm:m.map Tk.v=la.map Tk.v++lb.map Tk.v){da db:List Dc}{ta tb:List (List St)}(ha:Z9c la na da ta)(hb:Z9c lb nb db tb):Z9c m n (da++db) (ta++tb):=by
 have hlen:m.length=la.length+lb.length:=by have:=congrArg List.length hm;simpa using this
 have g1:∀i (h:i<la.length) (h':i<m.length),m[i].v=la[i].v:=by
  intro i h h'
  have e:(m.map Tk.v)[i]? = (la.map Tk.v++lb.map Tk.v)[i]?:=by rw[hm]
  rw[Y0d (by simpa using h),Y03,Y03,Y04 h,Y04 h']at e
  simpa using e
 have g2:∀i (h:i<lb.length) (h':i+la.length<m.length),m[i+la.length].v=lb[i].v:=by
  intro i h h'
  have e:(m.map Tk.v)[i+la.length]? = (la.map Tk.v++lb.map Tk.v)[i+la.length]?:=by rw[hm]
  rw[Y0e (by simp),Y03,Y03,Y04 h',List.length_map,Nat.add_sub_cancel,Y04 h]at e
  simpa using e
 have r1:Run (Z1q m n) s0 da ta ⟨la.length,0,0,0⟩:=by
  rcases Y0c la.length with hz|hz
  · obtain⟨rfl,rfl,e⟩:=Za3 hTa ha hz
    rw[hz]
    exact Run.nil _
  · have hA:=Ziw (l:=la) (m:=m) (n:=na) (n':=n) (k:=0) (c:=la.length) (λi hi=>⟨hi,by omega,g1 i hi (by omega)⟩) hz (Y09 _) (by omega)
    exact ZcN hA hTa ha (by show la.length<=_;omega)
 have r2:Run (Z1q m n) ⟨la.length,0,0,0⟩ db tb ⟨m.length,0,0,0⟩:=by
  rcases Y0c lb.length with hz|hz
  · obtain⟨rfl,rfl,e⟩:=Za3 hTb hb hz
    rw[hlen,hz,Nat.add_zero]
    exact Run.nil _
  · have hA:=Ziw (l:=lb) (m:=m) (n:=nb) (n':=n) (k:=la.length) (c:=lb.length) (λi hi=>⟨hi,by omega,g2 i hi (by omega)⟩) hz (Y09 _) (by omega)
    have:=ZcN hA hTb hb (by show lb.length<=_;omega)
    unfold sh s0 at this
    simp only[Nat.zero_add]at this
    rw[hlen,Nat.add_comm]
    exact this
 exact r1.app r2
theorem ZlD{T:List Tq}(hT:TqW T){s E:Ps}{d:List Dc}{t:List (List St)}(h:Run T s d t E)(hi:s.i<E.i)(hl:E.i<T.length):tU T (s.i+1)=tU T s.i+1:=by
 cases h with
 |nil=>omega
 |cons h r =>
  have f:=h.facts hT
  have:=(r.facts hT).1
  exact (f.2.2.2.1 (by omega)).1
theorem Zfv{la lb m:List Tk}{na nb n:Nat}(hTm:TqW (Z1q m n))(hTb:TqW (Z1q lb nb))(hm:m.map Tk.v=la.map Tk.v++lb.map Tk.v){d db:List Dc}{t tb:List (List St)}(h:Z9c m n d t)(hb:Z9c lb nb db tb):∃d1 d2 t1 t2,Z9c la na d1 t1/\d=d1++d2/\t=t1++t2:=by
 have hlen:m.length=la.length+lb.length:=by have:=congrArg List.length hm;simpa using this
 have g1:∀i (h:i<la.length) (h':i<m.length),la[i].v=m[i].v:=by
  intro i h h'
  have e:(m.map Tk.v)[i]? = (la.map Tk.v++lb.map Tk.v)[i]?:=by rw[hm]
  rw[Y0d (by simpa using h),Y03,Y03,Y04 h,Y04 h']at e
  simpa using e.symm
 have sp:∃s1 d1 d2 t1 t2,s1.i=la.length/\Run (Z1q m n) s0 d1 t1 s1/\Run (Z1q m n) s1 d2 t2 ⟨m.length,0,0,0⟩/\d=d1++d2/\t=t1++t2:=by
  rcases Y0c lb.length with hz|hz
  ·exact⟨⟨m.length,0,0,0⟩,d,[],t,[],by show m.length=_;omega,h,Run.nil _,by simp,by simp⟩
  · have htop : tU (Z1q m n) (la.length + 1) = tU (Z1q m n) la.length + 1 := by
     have hq:tU (Z1q lb nb) (0+1)=tU (Z1q lb nb) 0+1:=ZlD hTb hb hz (by rw[Z2u];exact Y0g _)
     have e:(m.map Tk.v)[la.length]? = (la.map Tk.v++lb.map Tk.v)[la.length]?:=by rw[hm]
     rw[Y0e (by simp),Y03,Y03,List.length_map,Nat.sub_self,Y04 hz,Y04 (show la.length<m.length by omega)]at e
     simp only[Option.map_some,Option.some.injEq,Tk.v,Prod.mk.injEq]at e
     obtain⟨k1,k2,-⟩:=e
     have e1:Z51 (Z1q m n) la.length=(m[la.length]'(by omega)).q:=Z82 (by omega)
     have e2:Z51 (Z1q lb nb) 0=lb[0].q:=Z82 hz
     have e3:(Z51 (Z1q m n) la.length).kind=(Z51 (Z1q lb nb) 0).kind:=by rw[e1,e2];simp only[Tk.q];rw[k1]
     have e4:(Z51 (Z1q m n) la.length).text=(Z51 (Z1q lb nb) 0).text:=by rw[e1,e2];simp only[Tk.q];rw[k2]
     have e5:Zfm (Z1q m n) la.length=Zfm (Z1q lb nb) 0:=by unfold Zfm;rw[e3]
     replace hq:0+(if Zfm (Z1q lb nb) 0 then Zfi (Z51 (Z1q lb nb) 0).text else 0)=0+1:=hq
     show tU (Z1q m n) la.length+(if Zfm (Z1q m n) la.length then Zfi (Z51 (Z1q m n) la.length).text else 0)=_
     rw[e5,e4]
     omega
    exact ZgJ hTm htop h (by rw[Z2u];exact Y0g _) (Y01 _) (by show la.length<m.length\/_;omega)
 obtain⟨s1,d1,d2,t1,t2,h1,r1,r2,e1,e2⟩:=sp
 refine⟨d1,d2,t1,t2,?_,e1,e2⟩
 obtain⟨f1,f2,f3,f4⟩:=r1.facts hTm
 obtain⟨f5,f6⟩:=f4 (by rw[Z2u];omega)
 have hs1:s1=⟨la.length,0,0,0⟩:=by
  have f7:s1.err=0:=f3 rfl
  obtain⟨i,e,a,o⟩:=s1
  simp only at h1 f5 f6 f7
  subst h1 f7
  rw[f5,f6]
  rfl
 rw[hs1]at r1
 rcases Y0c la.length with hz|hz
 · obtain⟨rfl,rfl,e⟩:=Za3 hTm r1 hz
   unfold Z9c
   rw[hz]
   exact Run.nil _
 · have hA:=Ziw (l:=m) (m:=la) (n:=n) (n':=na) (k:=0) (c:=la.length) (λi hi=>⟨by omega,hi,g1 i hi (by omega)⟩) hz (by omega) (Y09 _)
   exact ZcN hA hTm r1 (by show la.length<=_;omega)
end
section
def okX(s:List UInt8):Bool:=(Z0A s).1.1==0&&((Z0A s).1.2==0&&true)
theorem Z5o{s:List UInt8}(hs:s.length<=65536):okX s=true ↔ (Z2z s Z53).1=0/\Z1N (Z0J s)=0:=by
 unfold okX
 simp only[Y0a,beq_iff_eq,and_true]
 unfold Z0A
 by_cases h1:(Z2z s Z53).1=0
 · rw[if_neg (by simpa using h1)]
   by_cases h2:Z1N (Z0J s)=0
   ·rw[if_neg (by simpa using h2)];simp[h1,h2]
   ·rw[if_pos h2];simp[h2]
 ·rw[if_pos h1];simp[h1]
theorem Zh1{s:List UInt8}(hs:s.length<=65536)(h:okX s=true):Z0A s=((0,0),Z0J s):=by
 obtain⟨h1,h2⟩:=(Z5o hs).1 h
 unfold Z0A
 rw[if_neg (by simpa using h1),if_neg (by simpa using h2)]
theorem Z4K:∀(a b:List (List St)),Z0v (a++b)=Z0v a+Z0v b
 |[],b=>by simp[Z0v]
 |t::a,b=>by simp only[Y0b,Z0v,Z4K a b];omega
theorem Z6L:∀(a b:List (List St)),Z3x (a++b)=max (Z3x a) (Z3x b)
 |[],b=>by simp[Z3x]
 |t::a,b=>by simp only[Y0b,Z3x,Z6L a b];omega
theorem Z5k:∀(a b:List (List St)),Z1n (a++b)=(Z1n a&&Z1n b)
 |[],b=>rfl
 |t::a,b=>by simp only[Y0b,Z1n,Z5k a b,Bool.and_assoc]
theorem Z2I{D:List Dc}{S:List (List St)}:Z1N ⟨D,S⟩=0 ↔ (Z0v S<=2000/\Z3x S<=32)/\D.all dcB=true/\Z1n S=true:=by
 unfold Z1N
 simp only
 by_cases h:2000<Z0v S\/Z3x S>32
 · rw[if_pos h]
   exact⟨λe=>absurd e (by decide),λe=>by omega⟩
 · rw[if_neg h]
   by_cases h2:(D.all dcB&&Z1n S)=true
   · rw[if_pos h2]
     rw[Y0a]at h2
     exact⟨λ_=>⟨by omega,h2⟩,λ_=>rfl⟩
   · rw[if_neg h2]
     exact⟨λe=>absurd e (by decide),λe=>absurd (by rw[Y0a];exact e.2) h2⟩
theorem Zpk(n:Nat)(l:List Tk):(l.map (Tk.up n)).map Tk.v=l.map Tk.v:=by rw[List.map_map];rfl
theorem ZlW{a b:List UInt8}(ha:a.length<=4000)(hb:b.length<=4000)(h1:okX b=true)(h2:okX (a++10::b)=true):okX a=true:=by
 have hc:(a++10::b).length<=65536:=by rw[Y05,Y0h];omega
 obtain⟨b1,b2⟩:=(Z5o (by omega)).1 h1
 obtain⟨c1,c2⟩:=(Z5o hc).1 h2
 obtain⟨lb,hlb,rb⟩:=Z7C (by omega) b1
 obtain⟨m,hm,rm⟩:=Z7C hc c1
 have hg:=Zpz a b
 rw[hm,hlb]at hg
 cases hla:Z6q a with
 |inl e=>rw[hla]at hg;cases hg
 |inr la =>
  rw[hla]at hg
  have hmv:m.map Tk.v=la.map Tk.v++lb.map Tk.v:=by
   have:m=la++lb.map (Tk.up (a.length+1)):=by injection hg
   rw[this,Y0i,Zpk]
  obtain⟨d1,d2,t1,t2,r,e1,e2⟩:=Zfv (na:=a.length) (Z7Z hm hc _) (Z7Z hlb (by omega) _) hmv rm rb
  obtain⟨g1,g2⟩:=Zek (by omega) hla r
  refine (Z5o (by omega)).2 ⟨g1,?_⟩
  have hp:Z0J (a++10::b)=⟨d1++d2,t1++t2⟩:=by rw[<- e1,<- e2]
  rw[hp]at c2
  rw[g2]
  obtain⟨⟨x1,x2⟩,x3,x4⟩:=Z2I.1 c2
  rw[Z4K]at x1
  rw[Z6L]at x2
  rw[Z5k,Y0a]at x4
  rw[List.all_append,Y0a]at x3
  exact Z2I.2 ⟨⟨by omega,by omega⟩,x3.1,x4.1⟩
theorem ZlV {a b : List UInt8} (ha : a.length <= 4000) (hb : b.length <= 4000) (h1 : okX a = true) (h2 : okX b = true) :
  (2000<Z0v (Z0J a).threads+Z0v (Z0J b).threads->(Z0A (a++10::b)).1=(3,0)) /\
  (¬2000<Z0v (Z0J a).threads+Z0v (Z0J b).threads->Z0A (a++10::b)=((0,0),⟨(Z0J a).decls++(Z0J b).decls,(Z0J a).threads++(Z0J b).threads⟩)):=by
 have hc:(a++10::b).length<=65536:=by rw[Y05,Y0h];omega
 obtain⟨a1,a2⟩:=(Z5o (by omega)).1 h1
 obtain⟨b1,b2⟩:=(Z5o (by omega)).1 h2
 obtain⟨la,hla,ra⟩:=Z7C (by omega) a1
 obtain⟨lb,hlb,rb⟩:=Z7C (by omega) b1
 have hg:=Zpz a b
 rw[hla,hlb]at hg
 have hmv:(la++lb.map (Tk.up (a.length+1))).map Tk.v=la.map Tk.v++lb.map Tk.v:=by rw[Y0i,Zpk]
 have r:=ZgN (n:=(a++10::b).length) (Z7Z hla (by omega) _) (Z7Z hlb (by omega) _) hmv ra rb
 obtain⟨g1,g2⟩:=Zek hc hg r
 obtain⟨⟨x1,x2⟩,x3,x4⟩:=Z2I.1 (show Z1N ⟨(Z0J a).decls,(Z0J a).threads⟩=0 from a2)
 obtain⟨⟨y1,y2⟩,y3,y4⟩:=Z2I.1 (show Z1N ⟨(Z0J b).decls,(Z0J b).threads⟩=0 from b2)
 refine⟨λh=>?_,λh=>?_⟩
 · unfold Z0A
   have hk:Z1N (Z0J (a++10::b))=3:=by rw[g2];unfold Z1N;rw[if_pos (.inl (by rw[Z4K];exact h))]
   rw[if_neg (by simpa using g1),hk]
   rfl
 · have hk : Z1N (Z0J (a ++ 10 :: b)) = 0 := by
    rw[g2]
    exact Z2I.2 ⟨⟨by rw[Z4K];omega,by rw[Z6L];omega⟩,by rw[List.all_append,x3,y3];rfl,by rw[Z5k,x4,y4];rfl⟩
   rw[Zh1 hc ((Z5o hc).2 ⟨g1,hk⟩),g2]
theorem ZcR{s:List UInt8}(hs:s.length<=65536):okP (Z0A s).2/\Z0v (Z0A s).2.threads<=1000000:=by
 unfold Z0A
 split
 ·exact⟨⟨⟨Y01 _,λd hd=>by cases hd⟩,trivial,Y01 _⟩,Y01 _⟩
 · rename_i h
   have h0:(Z2z s Z53).1=0:=Classical.not_not.1 h
   obtain⟨hF,h2,hg,-⟩:=Z8l hs h0
   split
   ·exact⟨⟨⟨Y01 _,λd hd=>by cases hd⟩,trivial,Y01 _⟩,Y01 _⟩
   ·exact Zd8 hF hg
theorem Zh2{s:List UInt8}(hs:s.length<=65536):(Z0A s).2.decls.length<=1000000/\(Z0A s).2.threads.length<=1000000:=by
 unfold Z0A
 split
 ·exact⟨Y01 _,Y01 _⟩
 · rename_i h
   have h0:(Z2z s Z53).1=0:=Classical.not_not.1 h
   obtain⟨hF,h2,hg,-⟩:=Z8l hs h0
   split
   ·exact⟨Y01 _,Y01 _⟩
   · have h1:=hg.few
     have h2:=hg.lt
     have h3:=hF.size
     show (Z2A (Z2v s)).1.1.length<=_/\(Z2A (Z2v s)).1.2.length<=_
     omega
end
section
def txA:List UInt8 := "shared x; thread { r = load(x, acq); if (r == 1) { store(x, r + 1, rel); } }".toUTF8.data.toList
def txB:List UInt8 := "thread { r = ; }".toUTF8.data.toList
def exR:Ex:=.mk 2 0 [114] []
def Zp2:Ex:=.mk 1 1 [] []
def pgP:Pr:=⟨[⟨[120],false,0⟩],[[.mk 2 [114] [120] 3 [] [] [],.mk 10 [] [] 0 [.mk 7 0 [] [exR,Zp2]] [.mk 3 [] [120] 4 [.mk 14 0 [] [exR,Zp2]] [] []] []]]⟩
theorem pxA:Z0A txA=((0,0),pgP):=by kernel_rfl
theorem pxB:Z0A txB=((5,13),⟨[],[]⟩):=by kernel_rfl
end
section
variable {gl:Z0g}
def Z55{α β : Type}(f : α -> β -> Bool):List α -> List β -> Bool
 |[],[]=>true
 |x::a,y::b=>f x y&&Z55 f a b
 |_,_=>false
theorem Z6l{α β : Type}(f : α -> β -> Bool):∀(a:List α)(b:List β),a.length≠b.length->Z55 f a b=false
 |[],[],h=>by simp at h
 |[],_::_,_=>rfl
 |_::_,[],_=>rfl
 |x::a,y::b,h=>by simp only[Z55,Z6l f a b (by simpa using h),Bool.and_false]
theorem Z4w{α β : Type}(f : α -> β -> Bool):∀(a:List α)(b:List β)(i:Nat)(h:i<a.length)(h':i<b.length),Z55 f (a.take (i+1)) (b.take (i+1))=(Z55 f (a.take i) (b.take i)&&f a[i] b[i])
 |x::a,y::b,0,h,h'=>by simp[Z55]
 |x::a,y::b,i+1,h,h'=>by
  have:=Z4w f a b i (by simpa using h) (by simpa using h')
  simp only[List.take_succ_cons,Z55,List.getElem_cons_succ]at this⊢;rw[this,Bool.and_assoc]
theorem Z6m{α β : Type}(f : α -> β -> Bool):∀{a:List α}{b:List β}{i:Nat}(h:i<a.length)(h':i<b.length),f a[i] b[i]=false->Z55 f a b=false
 |x::a,y::b,0,h,h',e=>by simp only[List.getElem_cons_zero]at e;simp only[Z55,e,Bool.false_and]
 |x::a,y::b,i+1,h,h',e=>by simp only[List.getElem_cons_succ]at e;simp only[Z55,Z6m f (a:=a) (b:=b) (by simpa using h) (by simpa using h') e,Bool.and_false]
theorem Z8T{α : Type}(f : α -> α -> Bool):∀{a:List α},(∀x∈a,f x x=true)->Z55 f a a=true
 |[],_=>rfl
 |x::a,h=>by simp only[Z55,h x (by simp),Z8T f (a:=a) λy hy=>h y (by simp[hy]),Y07]
mutual
def Z52:Ex->Ex->Bool
 | .mk o n s k,.mk o' n' s' k'=>(o==o')&&((n==n')&&((s==s')&&sameL k k'))
def sameL:List Ex->List Ex->Bool
 |[],[]=>true
 |x::a,y::b=>Z52 x y&&sameL a b
 |_,_=>false
end
theorem Ze7:∀(a b:List Ex),sameL a b=Z55 Z52 a b
 |[],[]=>by simp only[sameL,Z55]
 |[],_::_=>by simp only[sameL,Z55]
 |_::_,[]=>by simp only[sameL,Z55]
 |x::a,y::b=>by simp only[sameL,Z55,Ze7 a b]
theorem Zj7(a b:Ex):refsL [.agg a.cells,.agg b.cells] []=[]:=by
 obtain⟨o,n,s,k⟩:=a
 obtain⟨o',n',s',k'⟩:=b
 simp only[Ex.cells];rfl
def ZnY{g:Nat}(hb:Z0h Y00 g=true)(G:Ex×Ex->Prop)(h:∀p,G p->ValOK Y00 gl g [.agg p.1.cells,.agg p.2.cells] (.bool (Z52 p.1 p.2))):Fam Y00 gl:={ I:=Ex×Ex,f:=g,G:=G,A:=λp=>[.agg p.1.cells,.agg p.2.cells],R:=λp=>.bool (Z52 p.1 p.2),body:=hb,inj:=(λi j _ _ h=>by simp only[List.cons.injEq,AV.agg.injEq,and_true]at h;rw[Z6f _ _ h.1,Z6f _ _ h.2]),ok:=(λp hp=>⟨Zj7 p.1 p.2,h p hp⟩) }
theorem Zby(a b:List Ex)(ha:a.length<=9223372036854775807)(each:∀x∈a,∀y∈b,ValOK Y00 gl 20 [.agg x.cells,.agg y.cells] (.bool (Z52 x y))):ValOK Y00 gl 42 [exA a,exA b] (.bool (sameL a b)):=by
 obtain⟨O,hO,p1,-⟩:=fams (P:=Y00) (gl:=gl) [ZnY (g:=20) (by kernel_rfl) (λp=>p.1∈a/\p.2∈b) (λp hp=>each _ hp.1 _ hp.2)] rfl
 have q1:∀x∈a,∀y∈b,∀H,Z05 Y00 O H 20 [.agg x.cells,.agg y.cells]=some (.bool (Z52 x y),H):=λx hx y hy=>p1 (x,y) ⟨hx,hy⟩
 clear p1
 rw[Ze7]
 unfold exA
 refine Z0B follows Z06 hO Tryz.func42 rfl ?_
 by_cases hl:a.length=b.length
 · have e0:((a.length:Int) != (b.length:Int))=false:=Z5c (b:=true) (by rw[hl];simp)
   repeat' ((conv=>whnf);first|refine stp ?_|with_reducible apply Z01<;>intro h)
   conv=>whnf
   refine⟨Nat,(λi=>i<=a.length/\Z55 Z52 (a.take i) (b.take i)=true),(λi=>[(0,.rs a.length 4 (exC a)),(1,.rs b.length 4 (exC b)),(5,.int .i64 i)]),(λ_=>[]),(λi=>a.length-i),⟨0,⟨Y01 _,rfl⟩,FgL.mk0 rfl ?_⟩,?_⟩
   ·exact wks
   rintro i ⟨hi,hall⟩
   dsimp only
   by_cases hlt:i<a.length
   · have e1:decide ((i:Int)<(a.length:Int))=true:=by simpa using hlt
     have hlt':i<b.length:=by omega
     have hat:=Z4w Z52 a b i hlt hlt'
     rw[hall,Y07]at hat
     have hfalse:Z52 a[i] b[i]=false->Z55 Z52 a b=false:=Z6m Z52 hlt hlt'
     have hx:=ex4 a i hlt
     have hy:=ex4 b i hlt'
     have q2:=q1 a[i] (Z1g hlt) b[i] (Z1g hlt')
     generalize a[i]=x at *
     generalize b[i]=y at *
     generalize Z52 x y=w at *
     obtain⟨o,n,s,k⟩:=x
     obtain⟨o',n',s',k'⟩:=y
     simp only[Ex.cells]at hx hy q2
     cases w with
     |true =>
      repeat' ((conv=>whnf);first|with_reducible refine exI (q2 _) ?_|(with_reducible refine ixJ i rfl ?_ ?_;focus omega)|refine exI hx ?_|refine exI hy ?_|refine stp ?_|with_reducible apply Z01<;>intro h)
      conv=>whnf
      refine⟨i+1,⟨hlt,hat⟩,by show a.length-(i+1)<a.length-i;omega,FgL.mk0 rfl ?_⟩
      exact wks
     |false =>
      rw[hfalse rfl]
      repeat' ((conv=>whnf);first|with_reducible refine exI (q2 _) ?_|(with_reducible refine ixJ i rfl ?_ ?_;focus omega)|refine exI hx ?_|refine exI hy ?_|refine stp ?_|with_reducible apply Z01<;>intro h)
      all_goals rfl
   · have e1:decide ((i:Int)<(a.length:Int))=false:=by simpa using hlt
     have hi2:i=a.length:=by have:=hi;omega
     subst hi2
     rw[Y06,hl,Y06]at hall
     rw[hall]
     repeat' ((conv=>whnf);first|refine stp ?_|with_reducible apply Z01<;>intro h)
     all_goals rfl
 · rw[Z6l _ _ _ hl]
   have e0:((a.length:Int) != (b.length:Int))=true:=Z5c (b:=false) (by simpa using (λh=>hl (by omega)))
   repeat' ((conv=>whnf);first|refine stp ?_|with_reducible apply Z01<;>intro h)
   all_goals rfl
theorem Zew:∀(n:Nat)(a b:Ex),Z1x a<=n->okE a->ValOK Y00 gl 20 [.agg a.cells,.agg b.cells] (.bool (Z52 a b))
 |n,.mk o m s k,.mk o' m' s' k',h,hok=>by
  have hk:=Z7K hok
  simp only[Ex.kids,Ex.name,okN]at hk
  simp only[Z1x]at h
  obtain⟨O,hO,p1,-⟩:=fams (P:=Y00) (gl:=gl) [{ I:=Unit,f:=42,G:=λ_=>True,A:=λ_=>[exA k,exA k'],R:=λ_=>.bool (sameL k k'),body:=(by kernel_rfl),inj:=(λ_ _ _ _ _=>rfl),ok:=(λ_ _=>⟨rfl,Zby k k' hk.1.2 λx hx y _=>match n,(show 1<=n by omega),h with|n+1,_,h=>Zew n x y (by have:=Z3n _ _ hx;omega) (Z8n hk.2 _ hx)⟩) }] rfl
  have q1:∀H,Z05 Y00 O H 42 [exA k,exA k']=some (.bool (sameL k k'),H):=p1 () trivial
  clear p1
  simp only[Ex.cells,exA,Z52]at q1⊢
  generalize sameL k k'=w at *
  refine Z0B follows Z06 hO Tryz.func20 rfl ?_
  generalize hb1:(o==o')=b1
  generalize hb2:(m==m')=b2
  generalize hb3:(s==s')=b3
  cases b1<;>cases b2<;>cases b3<;>cases w
  all_goals (repeat' ((conv=>whnf);first|with_reducible refine exI (q1 _) ?_|refine stp ?_|with_reducible apply Z01<;>intro h))
  all_goals (first|rfl|(simp_all[Z0Z];done))
end
section
variable {gl:Z0g}
mutual
def Z7k:St->St->Bool
 | .mk k n l o x t e,.mk k' n' l' o' x' t' e'=>(k==k')&&((n==n')&&((l==l')&&((o==o')&&(sameL x x'&&(sameSL t t'&&sameSL e e')))))
def sameSL:List St->List St->Bool
 |[],[]=>true
 |x::a,y::b=>Z7k x y&&sameSL a b
 |_,_=>false
end
theorem Zbf:∀(a b:List St),sameSL a b=Z55 Z7k a b
 |[],[]=>by simp only[sameSL,Z55]
 |[],_::_=>by simp only[sameSL,Z55]
 |_::_,[]=>by simp only[sameSL,Z55]
 |x::a,y::b=>by simp only[sameSL,Z55,Zbf a b]
def ZhP{g:Nat}(hb:Z0h Y00 g=true)(G:List St×List St->Prop)(h:∀p,G p->ValOK Y00 gl g [stA p.1,stA p.2] (.bool (sameSL p.1 p.2))):Fam Y00 gl:={ I:=List St×List St,f:=g,G:=G,A:=λp=>[stA p.1,stA p.2],R:=λp=>.bool (sameSL p.1 p.2),body:=hb,inj:=(λi j _ _ h=>by simp only[List.cons.injEq,and_true]at h;rw[Z5i h.1,Z5i h.2]),ok:=(λp hp=>⟨rfl,h p hp⟩) }
end
section
variable {gl:Z0g}
theorem ZkJ{b c:Bool}(h:b=c):(!b) = !c:=by rw[h]
def Zmn{g:Nat}(hb:Z0h Y00 g=true)(G:List Ex×List Ex->Prop)(h:∀p,G p->ValOK Y00 gl g [exA p.1,exA p.2] (.bool (sameL p.1 p.2))):Fam Y00 gl:={ I:=List Ex×List Ex,f:=g,G:=G,A:=λp=>[exA p.1,exA p.2],R:=λp=>.bool (sameL p.1 p.2),body:=hb,inj:=(λi j _ _ h=>by simp only[List.cons.injEq,and_true]at h;rw[Z8K h.1,Z8K h.2]),ok:=(λp hp=>⟨rfl,h p hp⟩) }
theorem ZlS(n:Nat)(a b:List St)(h:sizeSL a<=n)(hok:okSL a)(ha:a.length<=9223372036854775807)(O:Orc)(hO:OrcSound Y00 gl O)(r1:∀x y,sizeSL x<n->okSL x->x.length<=9223372036854775807->∀H,Z05 Y00 O H 24 [stA x,stA y]=some (.bool (sameSL x y),H))(r2:∀x y:List Ex,okL x->x.length<=9223372036854775807->∀H,Z05 Y00 O H 42 [exA x,exA y]=some (.bool (sameL x y),H)):ValOK Y00 gl 24 [.rs a.length 7 (stC a),.rs b.length 7 (stC b)] (.bool (Z55 Z7k a b)):=by
 refine Z0B follows Z06 hO Tryz.func24 rfl ?_
 by_cases hl:a.length=b.length
 · have e0:((a.length:Int) != (b.length:Int))=false:=Z5c (b:=true) (by rw[hl];simp)
   repeat' ((conv=>whnf);first|refine stp ?_|with_reducible apply Z01<;>intro h)
   conv=>whnf
   refine⟨Nat,(λi=>i<=a.length/\Z55 Z7k (a.take i) (b.take i)=true),(λi=>[(0,.rs a.length 7 (stC a)),(1,.rs b.length 7 (stC b)),(5,.int .i64 i)]),(λ_=>[]),(λi=>a.length-i),⟨0,⟨Y01 _,rfl⟩,FgL.mk0 rfl ?_⟩,?_⟩
   ·exact wks
   rintro i ⟨hi,hall⟩
   dsimp only
   by_cases hlt:i<a.length
   · have e1:decide ((i:Int)<(a.length:Int))=true:=by simpa using hlt
     have hlt':i<b.length:=by omega
     have hat:=Z4w Z7k a b i hlt hlt'
     rw[hall,Y07]at hat
     have hfalse:Z7k a[i] b[i]=false->Z55 Z7k a b=false:=Z6m Z7k hlt hlt'
     have hx:=st7 a i hlt
     have hy:=st7 b i hlt'
     have hsz:=Z6x _ _ (Z1g hlt)
     have hse:=Z7B a[i]
     obtain⟨k1,k2,k3,k4,k5,k6,k7,k8⟩:=Z8m (Z7J hok _ (Z1g hlt))
     have q2:=r1 a[i].thn b[i].thn (by omega) k7 k4
     have q3:=r1 a[i].els b[i].els (by omega) k8 k5
     have q1:=r2 a[i].exprs b[i].exprs k6 k3
     clear hsz hse
     generalize a[i]=u at *
     generalize b[i]=v at *
     obtain⟨k,n,l,o,x,t,e⟩:=u
     obtain⟨k',n',l',o',x',t',e'⟩:=v
     simp only[St.cells,exA,stA,St.thn,St.els,St.exprs]at hx hy q1 q2 q3
     generalize hw1:sameL x x'=w1 at *
     generalize hw2:sameSL t t'=w2 at *
     generalize hw3:sameSL e e'=w3 at *
     have hs:Z7k (.mk k n l o x t e) (.mk k' n' l' o' x' t' e')=((k==k')&&((n==n')&&((l==l')&&((o==o')&&(w1&&(w2&&w3)))))):=by simp only[Z7k,hw1,hw2,hw3]
     rw[hs]at hat hfalse
     clear hs
     generalize hb1:(k==k')=b1 at *
     generalize hb2:(n==n')=b2 at *
     generalize hb3:(l==l')=b3 at *
     generalize hb4:(o==o')=b4 at *
     have n1:=Z5c hb1
     have n2:=ZkJ hb2
     have n3:=ZkJ hb3
     have n4:=Z5c hb4
     cases b1 with
     |false =>
      have n1:(k != k')=true:=n1
      rw[hfalse (by simp)]
      repeat' ((conv=>whnf);first|with_reducible refine exI (q1 _) ?_|with_reducible refine exI (q2 _) ?_|with_reducible refine exI (q3 _) ?_|(with_reducible refine ixJ i rfl ?_ ?_;focus omega)|refine exI hx ?_|refine exI hy ?_|refine stp ?_|with_reducible apply Z01<;>intro h)
      all_goals (first|rfl|(simp[Z0Z];done))
     |true =>
      have n1:(k != k')=false:=n1
      cases b2 with
      |false =>
       have n2:(!(n==n'))=true:=n2
       rw[hfalse (by simp)]
       repeat' ((conv=>whnf);first|with_reducible refine exI (q1 _) ?_|with_reducible refine exI (q2 _) ?_|with_reducible refine exI (q3 _) ?_|(with_reducible refine ixJ i rfl ?_ ?_;focus omega)|refine exI hx ?_|refine exI hy ?_|refine stp ?_|with_reducible apply Z01<;>intro h)
       all_goals (first|rfl|(simp[Z0Z];done))
      |true =>
       have n2:(!(n==n'))=false:=n2
       cases b3 with
       |false =>
        have n3:(!(l==l'))=true:=n3
        rw[hfalse (by simp)]
        repeat' ((conv=>whnf);first|with_reducible refine exI (q1 _) ?_|with_reducible refine exI (q2 _) ?_|with_reducible refine exI (q3 _) ?_|(with_reducible refine ixJ i rfl ?_ ?_;focus omega)|refine exI hx ?_|refine exI hy ?_|refine stp ?_|with_reducible apply Z01<;>intro h)
        all_goals (first|rfl|(simp[Z0Z];done))
       |true =>
        have n3:(!(l==l'))=false:=n3
        cases b4 with
        |false =>
         have n4:(o != o')=true:=n4
         rw[hfalse (by simp)]
         repeat' ((conv=>whnf);first|with_reducible refine exI (q1 _) ?_|with_reducible refine exI (q2 _) ?_|with_reducible refine exI (q3 _) ?_|(with_reducible refine ixJ i rfl ?_ ?_;focus omega)|refine exI hx ?_|refine exI hy ?_|refine stp ?_|with_reducible apply Z01<;>intro h)
         all_goals (first|rfl|(simp[Z0Z];done))
        |true =>
         have n4:(o != o')=false:=n4
         cases w1 with
         |false =>
          rw[hfalse (by simp)]
          repeat' ((conv=>whnf);first|with_reducible refine exI (q1 _) ?_|with_reducible refine exI (q2 _) ?_|with_reducible refine exI (q3 _) ?_|(with_reducible refine ixJ i rfl ?_ ?_;focus omega)|refine exI hx ?_|refine exI hy ?_|refine stp ?_|with_reducible apply Z01<;>intro h)
          all_goals (first|rfl|(simp[Z0Z];done))
         |true =>
          cases w2 with
          |false =>
           rw[hfalse (by simp)]
           repeat' ((conv=>whnf);first|with_reducible refine exI (q1 _) ?_|with_reducible refine exI (q2 _) ?_|with_reducible refine exI (q3 _) ?_|(with_reducible refine ixJ i rfl ?_ ?_;focus omega)|refine exI hx ?_|refine exI hy ?_|refine stp ?_|with_reducible apply Z01<;>intro h)
           all_goals (first|rfl|(simp[Z0Z];done))
          |true =>
           cases w3 with
           |false =>
            rw[hfalse (by simp)]
            repeat' ((conv=>whnf);first|with_reducible refine exI (q1 _) ?_|with_reducible refine exI (q2 _) ?_|with_reducible refine exI (q3 _) ?_|(with_reducible refine ixJ i rfl ?_ ?_;focus omega)|refine exI hx ?_|refine exI hy ?_|refine stp ?_|with_reducible apply Z01<;>intro h)
            all_goals (first|rfl|(simp[Z0Z];done))
           |true =>
            simp only[Y07]at hat
            repeat' ((conv=>whnf);first|with_reducible refine exI (q1 _) ?_|with_reducible refine exI (q2 _) ?_|with_reducible refine exI (q3 _) ?_|(with_reducible refine ixJ i rfl ?_ ?_;focus omega)|refine exI hx ?_|refine exI hy ?_|refine stp ?_|with_reducible apply Z01<;>intro h)
            conv=>whnf
            refine⟨i+1,⟨hlt,hat⟩,by show a.length-(i+1)<a.length-i;omega,FgL.mk0 rfl ?_⟩
            exact wks
   · have e1:decide ((i:Int)<(a.length:Int))=false:=by simpa using hlt
     have hi2:i=a.length:=by have:=hi;omega
     subst hi2
     rw[Y06,hl,Y06]at hall
     rw[hall]
     repeat' ((conv=>whnf);first|refine stp ?_|with_reducible apply Z01<;>intro h)
     all_goals rfl
 · rw[Z6l _ _ _ hl]
   have e0:((a.length:Int) != (b.length:Int))=true:=Z5c (b:=false) (by simpa using (λh=>hl (by omega)))
   repeat' ((conv=>whnf);first|refine stp ?_|with_reducible apply Z01<;>intro h)
   all_goals rfl
theorem Zbx:∀(n:Nat)(a b:List St),sizeSL a<=n->okSL a->a.length<=9223372036854775807->ValOK Y00 gl 24 [stA a,stA b] (.bool (sameSL a b))
 |n,a,b,h,hok,ha=>by
  obtain⟨O,hO,p1,p2,-⟩:=fams (P:=Y00) (gl:=gl) [ZhP (g:=24) (by kernel_rfl) (λp=>sizeSL p.1<n/\okSL p.1/\p.1.length<=9223372036854775807) (λp hp=>match n,(show 1<=n by have:=hp.1;omega),hp.1 with|n+1,_,h=>Zbx n p.1 p.2 (by omega) hp.2.1 hp.2.2),Zmn (g:=42) (by kernel_rfl) (λp=>okL p.1/\p.1.length<=9223372036854775807) (λp hp=>Zby p.1 p.2 hp.2 λy hy z _=>Zew _ y z (Y09 _) (Z8n hp.1 _ hy))] rfl
  have r1:∀x y,sizeSL x<n->okSL x->x.length<=9223372036854775807->∀H,Z05 Y00 O H 24 [stA x,stA y]=some (.bool (sameSL x y),H):=λx y h1 h2 h3=>p1 (x,y) ⟨h1,h2,h3⟩
  have r2:∀x y:List Ex,okL x->x.length<=9223372036854775807->∀H,Z05 Y00 O H 42 [exA x,exA y]=some (.bool (sameL x y),H):=λx y h1 h2=>p2 (x,y) ⟨h1,h2⟩
  clear p1 p2
  rw[Zbf]
  unfold stA
  exact ZlS n a b h hok ha O hO r1 r2
end
section
def Z4g(d e:Dc):Bool:=d.name==e.name&&(d.plain==e.plain&&(d.val==e.val&&true))
theorem tgT:Z4I Y00 9=some false:=by kernel_rfl
theorem tgB:Z4I Y00 4=some false:=by kernel_rfl
theorem tgI:Z4I Y00 2=some false:=by kernel_rfl
theorem feD:Z2Z Y00 66=some [(9,0),(4,1),(2,2)]:=by kernel_rfl
theorem egD:Y00.eqGuardType Y00.depth 66=false:=by kernel_rfl
theorem Zqk(d e:Dc):Zc2 Y00 66 [.str d.name,.bool d.plain,.int .i64 d.val] [.str e.name,.bool e.plain,.int .i64 e.val]=some (Z4g d e) :=
 Zf3 egD feD (Z6e tgT rfl rfl (Zmq Y0j _ _) (Z6e tgB rfl rfl (Zkc Tryz.underlying4 _ _) (Z6e tgI rfl rfl (Zde Tryz.underlying2 _ _) rfl)))
theorem ZcL(d:Dc):Z4g d d=true:=by simp[Z4g]
end
section
variable {gl:Z0g}
mutual
theorem Zfq:∀e:Ex,Z52 e e=true
 | .mk _ _ _ k=>by simp[Z52,sameL_self k]
theorem sameL_self:∀l:List Ex,sameL l l=true
 |[]=>by simp[sameL]
 |e::l=>by simp[sameL,Zfq e,sameL_self l]
end
mutual
theorem Zfp:∀x:St,Z7k x x=true
 | .mk _ _ _ _ x t e=>by simp[Z7k,sameL_self x,sameSL_self t,sameSL_self e]
theorem sameSL_self:∀l:List St,sameSL l l=true
 |[]=>by simp[sameSL]
 |e::l=>by simp[sameSL,Zfp e,sameSL_self l]
end
def Zjl(p q:Pr):Bool:=Z55 Z4g p.decls q.decls&&Z55 sameSL p.threads q.threads
theorem Z9k(p:Pr):Zjl p p=true:=by
 unfold Zjl
 rw[Z8T Z4g (λd _=>ZcL d),Z8T sameSL (λt _=>sameSL_self t)]
 rfl
theorem Zeu(p q:Pr)(hp:okP p):ValOK Y00 gl 9 [p.av,q.av] (.bool (Zjl p q)):=by
 obtain⟨O,hO,p1,-⟩:=fams (P:=Y00) (gl:=gl) [ZhP (g:=24) (by kernel_rfl) (λp=>okSL p.1/\p.1.length<=9223372036854775807) (λp hp=>Zbx _ p.1 p.2 (Y09 _) hp.1 hp.2)] rfl
 have q1:∀x y,okSL x->x.length<=9223372036854775807->∀H,Z05 Y00 O H 24 [stA x,stA y]=some (.bool (sameSL x y),H):=λx y h1 h2=>p1 (x,y) ⟨h1,h2⟩
 clear p1
 unfold Zjl
 obtain⟨ds,ts⟩:=p
 obtain⟨ds',ts'⟩:=q
 obtain⟨⟨hd1,hd2⟩,ht1,ht2⟩:=hp
 simp only[Pr.av]at *
 refine Z0B follows Z06 hO Tryz.func9 rfl ?_
 by_cases hl1:ds.length=ds'.length
 case neg =>
  rw[Z6l _ _ _ hl1,Bool.false_and]
  have e0:((ds.length:Int) != (ds'.length:Int))=true:=Z5c (b:=false) (by simpa using (λh=>hl1 (by omega)))
  repeat' ((conv=>whnf);first|refine stp ?_|with_reducible apply Z01<;>intro h)
  all_goals rfl
 have e0:((ds.length:Int) != (ds'.length:Int))=false:=Z5c (b:=true) (by rw[hl1];simp)
 by_cases hl2:ts.length=ts'.length
 case neg =>
  rw[Z6l _ ts ts' hl2,Bool.and_false]
  have e1:((ts.length:Int) != (ts'.length:Int))=true:=Z5c (b:=false) (by simpa using (λh=>hl2 (by omega)))
  repeat' ((conv=>whnf);first|refine stp ?_|with_reducible apply Z01<;>intro h)
  all_goals rfl
 have e1:((ts.length:Int) != (ts'.length:Int))=false:=Z5c (b:=true) (by rw[hl2];simp)
 repeat' ((conv=>whnf);first|refine stp ?_|with_reducible apply Z01<;>intro h)
 conv=>whnf
 refine⟨Nat,(λi=>i<=ds.length/\Z55 Z4g (ds.take i) (ds'.take i)=true),(λi=>[(2,.ptr 0 0),(3,.ptr 1 0),(5,.int .i64 i)]),(λ_=>[⟨true,0,0,.cells [.rs ds.length 3 (dcC ds),.rs ts.length 1 (ts.map stA)] 26⟩,⟨true,1,0,.cells [.rs ds'.length 3 (dcC ds'),.rs ts'.length 1 (ts'.map stA)] 26⟩]),(λi=>ds.length-i),⟨0,⟨Y01 _,rfl⟩,FgL.mk [0,1] rfl ?_ ⟨hbp,hbp,trivial⟩ rfl⟩,?_⟩
 ·exact wks
 rintro i ⟨hi,hall⟩
 dsimp only
 by_cases hlt:i<ds.length
 · have e2:decide ((i:Int)<(ds.length:Int))=true:=by simpa using hlt
   have hlt':i<ds'.length:=by omega
   have hat:=Z4w Z4g ds ds' i hlt hlt'
   rw[hall,Y07]at hat
   have hfalse:Z4g ds[i] ds'[i]=false->Z55 Z4g ds ds'=false:=Z6m Z4g hlt hlt'
   have hx:=dc3 ds i hlt
   have hy:=dc3 ds' i hlt'
   have hc:=Zqk ds[i] ds'[i]
   generalize ds[i]=x at *
   generalize ds'[i]=y at *
   generalize Z4g x y=w at *
   obtain⟨xn,xp,xv⟩:=x
   obtain⟨yn,yp,yv⟩:=y
   simp only[Dc.cells]at hx hy hc
   cases w with
   |true =>
    repeat' ((conv=>whnf);first|(with_reducible refine ixJ i rfl ?_ ?_;focus omega)|refine exI hx ?_|refine exI hy ?_|refine exI hc ?_|refine stp ?_|with_reducible apply Z01<;>intro h)
    conv=>whnf
    refine⟨i+1,⟨hlt,hat⟩,by show ds.length-(i+1)<ds.length-i;omega,FgL.mk [0,1] rfl ?_ ⟨hbp,hbp,trivial⟩ rfl⟩
    exact wks
   |false =>
    rw[hfalse rfl,Bool.false_and]
    repeat' ((conv=>whnf);first|(with_reducible refine ixJ i rfl ?_ ?_;focus omega)|refine exI hx ?_|refine exI hy ?_|refine exI hc ?_|refine stp ?_|with_reducible apply Z01<;>intro h)
    all_goals rfl
 · have e2:decide ((i:Int)<(ds.length:Int))=false:=by simpa using hlt
   have hi2:i=ds.length:=by have:=hi;omega
   subst hi2
   rw[Y06,hl1,Y06]at hall
   rw[hall,Y07]
   repeat' ((conv=>whnf);first|refine stp ?_|with_reducible apply Z01<;>intro h)
   conv=>whnf
   refine⟨Nat,(λi=>i<=ts.length/\Z55 sameSL (ts.take i) (ts'.take i)=true),(λi=>[(2,.ptr 0 0),(3,.ptr 1 0),(6,.int .i64 i)]),(λ_=>[⟨true,0,0,.cells [.rs ds.length 3 (dcC ds),.rs ts.length 1 (ts.map stA)] 26⟩,⟨true,1,0,.cells [.rs ds'.length 3 (dcC ds'),.rs ts'.length 1 (ts'.map stA)] 26⟩]),(λi=>ts.length-i),⟨0,⟨Y01 _,rfl⟩,FgL.mk [0,1] rfl ?_ ⟨hbp,hbp,trivial⟩ rfl⟩,?_⟩
   ·exact wks
   clear hall hi
   rintro i ⟨hi,hall⟩
   dsimp only
   by_cases hlt:i<ts.length
   · have e3:decide ((i:Int)<(ts.length:Int))=true:=by simpa using hlt
     have hlt':i<ts'.length:=by omega
     have hat:=Z4w sameSL ts ts' i hlt hlt'
     rw[hall,Y07]at hat
     have hfalse:sameSL ts[i] ts'[i]=false->Z55 sameSL ts ts'=false:=Z6m sameSL hlt hlt'
     have hx:=th1 ts i hlt
     have hy:=th1 ts' i hlt'
     have hk:=Z5Y ht1 _ (Z1g hlt)
     have q2:=q1 ts[i] ts'[i] hk.1 hk.2
     generalize ts[i]=x at *
     generalize ts'[i]=y at *
     generalize sameSL x y=w at *
     simp only[stA]at hx hy q2
     cases w with
     |true =>
      repeat' ((conv=>whnf);first|with_reducible refine exI (q2 _) ?_|(with_reducible refine ixJ i rfl ?_ ?_;focus omega)|refine exI hx ?_|refine exI hy ?_|refine stp ?_|with_reducible apply Z01<;>intro h)
      conv=>whnf
      refine⟨i+1,⟨hlt,hat⟩,by show ts.length-(i+1)<ts.length-i;omega,FgL.mk [0,1] rfl ?_ ⟨hbp,hbp,trivial⟩ rfl⟩
      exact wks
     |false =>
      rw[hfalse rfl]
      repeat' ((conv=>whnf);first|with_reducible refine exI (q2 _) ?_|(with_reducible refine ixJ i rfl ?_ ?_;focus omega)|refine exI hx ?_|refine exI hy ?_|refine stp ?_|with_reducible apply Z01<;>intro h)
      all_goals rfl
   · have e3:decide ((i:Int)<(ts.length:Int))=false:=by simpa using hlt
     have hi2:i=ts.length:=by have:=hi;omega
     subst hi2
     rw[Y06,hl2,Y06]at hall
     rw[hall]
     repeat' ((conv=>whnf);first|refine stp ?_|with_reducible apply Z01<;>intro h)
     all_goals rfl
end
section
theorem Zne{sn:Z0m}{z:Nat}{v:Value}(h:VR sn noI .nslice v):VR sn noI (.rs 0 z []) v:=by simp only[VR]at h⊢;exact .inl ⟨trivial,trivial,h⟩
def Nv(u u2:AV):Prop:=∀(sn:Z0m)(v:Value),VR sn noI u v->VR sn noI u2 v
def NvL:List AV->List AV->Prop
 |[],[]=>True
 |a::l,b::l2=>Nv a b/\NvL l l2
 |_,_=>False
theorem Nv.same{u:AV}:Nv u u:=λ_ _ h=>h
theorem Nv.nil{z:Nat}:Nv .nslice (.rs 0 z []):=λ_ _ h=>Zne h
theorem NvL.mr{sn:Z0m}{b:Nat}:∀{l l2:List AV}{o:Nat},NvL l l2->MR sn l b o->MR sn l2 b o
 |[],[],o,_,h=>h
 |a::l,c::l2,o,h,k=>by
  simp only[MR]at k⊢
  obtain⟨⟨v,k1,k2⟩,k3⟩:=k
  exact⟨⟨v,k1,h.1 _ _ k2⟩,NvL.mr h.2 k3⟩
 |[],_::_,_,h,_=>h.elim
 |_::_,[],_,h,_=>h.elim
theorem NvL.lr{sn:Z0m}:∀{l l2:List AV}{vs:List Value},NvL l l2->LR sn noI l vs->LR sn noI l2 vs
 |[],[],_,_,h=>h
 |a::l,c::l2,vs,h,k=>by
  simp only[LR]at k⊢
  obtain⟨d,ds,e,k1,k2⟩:=k
  exact⟨d,ds,e,h.1 _ _ k1,NvL.lr h.2 k2⟩
 |[],_::_,_,h,_=>h.elim
 |_::_,[],_,h,_=>h.elim
theorem Nv.rs{n z:Nat}{l l2:List AV}(h:NvL l l2)(e:l2.length=l.length):Nv (.rs n z l) (.rs n z l2):=λsn v k=>by
 simp only[VR]at k⊢
 rcases k with ⟨k1,rfl,k3⟩|⟨a,cap,k1,k2,k3,k4,k5⟩
 ·exact .inl ⟨k1,List.length_eq_zero_iff.1 e,k3⟩
 ·exact .inr ⟨a,cap,k1,k2,by omega,NvL.mr h k4,k5⟩
theorem Nv.agg{l l2:List AV}(h:NvL l l2):Nv (.agg l) (.agg l2):=λsn v k=>by
 simp only[VR]at k⊢
 obtain⟨d,k1,k2⟩:=k
 exact⟨d,k1,NvL.lr h k2⟩
end
section
variable {gl:Z0g}
theorem ZpK:Z4I Y00 27=some false:=by kernel_rfl
theorem ZpL:Z4I Y00 3=some false:=by kernel_rfl
theorem Zqd:Z2Z Y00 29=some [(27,0),(3,1)]:=by kernel_rfl
theorem Zqf:Y00.eqGuardType Y00.depth 29=false:=by kernel_rfl
theorem Zdt(a b a' b':Int):Zc2 Y00 29 [.int .i64 a,.int .i64 b] [.int .i64 a',.int .i64 b']=some (a==a'&&(b==b'&&true)) :=
 Zf3 Zqf Zqd (Z6e ZpK rfl rfl (Zde Tryz.underlying27 _ _) (Z6e ZpL rfl rfl (Zde Tryz.underlying3 _ _) rfl))
theorem Zjv:ValOK Y00 gl 25 [] pgP.av:=by
 have hΦ : ∀r':AV,Nv r' pgP.av->∀sn v,VR sn noI r' v->VR sn noI pgP.av v:=λr' h=>h
 refine fn_valX follows Z06 (Z0e follows Z06 Z0u 3) hΦ Tryz.func25 rfl (Z0p (isC:=λ_=>false) 3) ?_
 repeat' ((conv=>whnf);first|refine stp ?_|with_reducible apply Z01<;>intro h)
 all_goals (conv=>whnf)
 all_goals (repeat' first|exact trivial|exact Nv.same|exact Nv.nil|refine Nv.agg ?_|refine Nv.rs ?_ rfl|refine Y02 ?_ ?_)
def ZgX(s:List UInt8):AV:=.tuple [(Z0A s).2.av,.agg [.int .i64 (Z0A s).1.1,.int .i64 (Z0A s).1.2]]
def Z7G:Fam Y00 runLives.gl:={ I:=List UInt8,f:=8,G:=λs=>s.length<=65536,A:=λs=>[.str s],R:=λs=>ZgX s,body:=(by kernel_rfl),inj:=(λi j _ _ h=>by simp only[List.cons.injEq,AV.str.injEq,and_true]at h;rw[h]),ok:=(λs h=>⟨rfl,ZgW h⟩) }
theorem ZoH:okP pgP:=by simp[okP,okD,Zg7,okSL,okS,okL,okE,okN,pgP,exR,Zp2]
def Zq2(f:Nat):Bool:=Nat.beq f 8 || (Nat.beq f 9 || Nat.beq f 25)
theorem ZkK:ValOK Y00 runLives.gl 7 [] (.bool true):=by
 obtain⟨O,hO,p1,p2,p3,-⟩:=fams (P:=Y00) (gl:=runLives.gl) [Z7G,Zbn (by kernel_rfl) rfl (Zjv (gl:=runLives.gl)),Zbn (by kernel_rfl) rfl (Zeu (gl:=runLives.gl) pgP pgP ZoH)] rfl
 have q1:∀H,Z05 Y00 O H 8 [.str txA]=some (.tuple [pgP.av,.agg [.int .i64 0,.int .i64 0]],H):=by
  have h:=p1 txA (show txA.length<=65536 by decide)
  simp only[Z7G,ZgX,pxA]at h
  exact h
 have q2:∀H,Z05 Y00 O H 8 [.str txB]=some (.tuple [.agg [.rs 0 3 [],.rs 0 1 []],.agg [.int .i64 5,.int .i64 13]],H):=by
  have h:=p1 txB (show txB.length<=65536 by decide)
  simp only[Z7G,ZgX,pxB]at h
  exact h
 have q3:∀H,Z05 Y00 O H 25 []=some (pgP.av,H):=p2 () trivial
 have q4:∀H,Z05 Y00 O H 9 [pgP.av,pgP.av]=some (.bool true,H):=by
  have h:=p3 () trivial
  simp only[Zbn,Z9k]at h
  exact h
 clear p1 p2 p3
 refine Z1z Zq2 3 follows Z06 hO Tryz.func7 rfl ?_
 repeat' ((conv=>whnf);first|refine exI (Zdt _ _ _ _) ?_|refine exI (q1 _) ?_|refine exI (q2 _) ?_|refine exI (q3 _) ?_|refine exI (q4 _) ?_|refine stp ?_|with_reducible apply Z01<;>intro h)
 all_goals (try (conv=>whnf))
 all_goals rfl
end
end Go.Proofs.YtneoiadnbikciaaGreatDoor.lex
section
namespace Go.Abs
open Go.RowKit
open Classical in
theorem Zma {P : Program} {gl : Z0g} {I : Type} {f0 : Nat} {G : I -> Prop} {A : I -> List AV} {R : I -> AV} (hr : ∀ i, G i -> plain (R i) = true) (hi : ∀ i j, G i -> G j -> A i = A j -> R i = R j) (hv : ∀ i, G i -> ValOK P gl f0 (A i) (R i)) (hb : Z0h P f0 = true) {O : Orc} (hO : OrcSound P gl O) :
  ∃O',OrcSound P gl O'/\(∀i,G i->∀H args,Z2E (frz H 30) args=some (A i)->Z05 P O' H f0 args=some (R i,H))/\∀g,g≠f0->∀args H,Z05 P O' H g args=Z05 P O H g args:=by
 have hz:OrcSound P gl (Z7H λf args=>if h:∃i,f=f0/\G i/\A i=args then some (R (Classical.choose h)) else none):=Z0V λf args r h=>by
  split at h
  · rename_i e
    have hsp:=Classical.choose_spec e
    cases h
    generalize Classical.choose e=i at *
    obtain⟨e1,e2,e3⟩:=hsp
    have:=hv _ e2
    rw[e3]at this
    exact⟨hr _ e2,by rw[e1];exact this⟩
  ·cases h
 refine⟨Z3q (Z7H λf args=>if h:∃i,f=f0/\G i/\A i=args then some (R (Classical.choose h)) else none) O,Z23 hz hO,λi gi H args ha=>Z5w hb (Z25 hb ha ?_),λg hg args H=>?_⟩
 · have h:∃j,f0=f0/\G j/\A j=A i:=⟨i,rfl,gi,rfl⟩
   rw[dif_pos h]
   obtain⟨e1,e2,e3⟩:=Classical.choose_spec h
   rw[hi _ _ e2 gi e3]
 · unfold Z05
   have h1:Z3q (Z7H λf args=>if h:∃i,f=f0/\G i/\A i=args then some (R (Classical.choose h)) else none) O g=O g:=by
    funext args H
    unfold Z3q Z7H
    cases Z2E (frz H 30) args with
    |none=>rfl
    |some fa=>simp only;rw[dif_neg (λ⟨_,h,_⟩=>hg h)]
   have hy:yl (Z3q (Z7H λf args=>if h:∃i,f=f0/\G i/\A i=args then some (R (Classical.choose h)) else none) O) H g args=yl O H g args:=by unfold yl;simp only[h1]
   rw[h1,hy]
end Go.Abs
end
section
namespace Go.Proofs.YtneoiadnbikciaaGreatDoor.lex
open Go.Abs Go.RowKit
variable {gl:Z0g}
theorem ZeS:∀(a b:List Dc),dcC a=dcC b->a.length=b.length->a=b
 |[],[],_,_=>rfl
 |[],_::_,_,h=>by simp at h
 |_::_,[],_,h=>by simp at h
 |⟨n,q,v⟩::a,⟨n',q',v'⟩::b,h,hl=>by
  simp only[dcC,Dc.cells,Y0b,Y0f,List.cons.injEq,AV.str.injEq,AV.bool.injEq,AV.int.injEq,true_and]at h
  obtain⟨rfl,rfl,rfl,h⟩:=h
  rw[ZeS a b h (by simpa using hl)]
theorem ZkB:∀(a b:List (List St)),a.map stA=b.map stA->a=b
 |[],[],_=>rfl
 |[],_::_,h=>by simp at h
 |_::_,[],h=>by simp at h
 |x::a,y::b,h=>by
  simp only[List.map_cons,List.cons.injEq]at h
  rw[Z5i h.1,ZkB a b h.2]
theorem Znn{p q:Pr}(h:p.av=q.av):p=q:=by
 obtain⟨ds,ts⟩:=p
 obtain⟨ds',ts'⟩:=q
 simp only[Pr.av,AV.agg.injEq,List.cons.injEq,AV.rs.injEq,and_true,true_and]at h
 obtain⟨⟨h1,h2⟩,h3,h4⟩:=h
 rw[ZeS _ _ h2 h1,ZkB _ _ h4]
theorem ZbY{b:Bool}(h:b=false):(!b)=true:=by rw[h];rfl
theorem Zl8{b:Bool}(h:b=true):(!b)=false:=by rw[h];rfl
theorem ZpF:Zcm Y00 23 23=some (66,3,32):=by kernel_rfl
theorem ZpE:Zcm Y00 24 24=some (53,1,24):=by kernel_rfl
theorem Zgn:∀l:List (List St),(l.map stA).all one=true
 |[]=>rfl
 |e::l=>by simp only[List.map_cons,List.all_cons,Zgn l,Bool.and_true];rfl
theorem ZdT:∀l:List (List St),(l.map stA).all Z6J=true
 |[]=>rfl
 |e::l=>by simp only[List.map_cons,List.all_cons,ZdT l,Bool.and_true];rfl
theorem apD {H : Z00} {b f len cap : Nat} {cs : List AV} (l : List Dc) (hl : l.length ≠ 0) (hH : H[b]? = some ⟨true, f, 0, .cells cs 66⟩) (hk : ∀ o ∈ H, o.fam = f -> o.sh + o.body.len <= cs.length) (hc : cs.length = len * 3) (hs : len + l.length <= 3000000) :
  Z1A Y00 23 23 (.slice b 0 len cap 3) (.rs l.length 3 (dcC l)) H=some (.slice H.length 0 (len+l.length) (len+l.length) 3,H++[⟨true,f,0,.cells (cs++dcC l) 66⟩]) :=
 Zdr ZpF rfl hH (Zdf hk) hc (Zl0 l) hl ⟨by omega,by omega⟩
theorem apT {H : Z00} {b f len cap : Nat} {cs : List AV} (l : List (List St)) (hl : l.length ≠ 0) (hH : H[b]? = some ⟨true, f, 0, .cells cs 53⟩) (hk : ∀ o ∈ H, o.fam = f -> o.sh + o.body.len <= cs.length) (hc : cs.length = len * 1) (hs : len + l.length <= 3000000) :
  Z1A Y00 24 24 (.slice b 0 len cap 1) (.rs l.length 1 (l.map stA)) H=some (.slice H.length 0 (len+l.length) (len+l.length) 1,H++[⟨true,f,0,.cells (cs++l.map stA) 53⟩]) :=
 Zdr ZpE rfl hH (Zdf hk) hc (Zgn l) hl ⟨by omega,by omega⟩
theorem ZpB{H:Z00}{n b f sh len cap z len':Nat}{cs cs':List AV}{ty:TypeId}(hH:H[b]? = some ⟨true,f,sh,.cells cs ty⟩)(hl:cs'.all Z6J=true)(e1:cs=cs')(e2:len=len')(hc:cs'.length=len'*z):frz H (n+2) (.slice b 0 len cap z)=some (.rs len' z cs'):=by
 subst e1 e2
 exact Z1t hH hc hl
theorem ZnU{H:Z00}{a b a' b':AV}(h1:frz H 30 a=some a')(h2:frz H 30 b=some b'):Z2E (frz H 30) [a,b]=some [a',b']:=by simp only[Z2E,h1,h2]
theorem ZhF{H:Z00}{n:Nat}{a b a' b':AV}(h1:frz H n a=some a')(h2:frz H n b=some b'):frz H (n+1) (.agg [a,b])=some (.agg [a',b']):=by
 show (match Z2E (frz H n) [a,b] with|some l=>some (AV.agg l)|none=>none)=_
 simp only[Z2E,h1,h2]
theorem Zej:∀{a b:List (List St)},Zg7 a->Zg7 b->Zg7 (a++b)
 |[],b,_,h=>h
 |t::a,b,h,h2=>by
  simp only[Zg7,Y0b]at h⊢
  exact⟨h.1,h.2.1,Zej h.2.2 h2⟩
theorem ZlK{da db:List Dc}{ta tb:List (List St)}(ha:okP ⟨da,ta⟩)(hb:okP ⟨db,tb⟩)(h1:da.length+db.length<=3000000)(h2:ta.length+tb.length<=3000000):okP ⟨da++db,ta++tb⟩:=by
 refine⟨⟨by show (da++db).length<=_;rw[Y05];omega,λd hd=>?_⟩,Zej ha.2.1 hb.2.1,by show (ta++tb).length<=_;rw[Y05];omega⟩
 rcases List.mem_append.1 hd with hd|hd
 ·exact ha.1.2 d hd
 ·exact hb.1.2 d hd
def Zn9(f e:Nat):Z00->Prop
 |[]=>True
 |o::H=>(o.fam=f->o.sh+o.body.len<=e)/\Zn9 f e H
theorem Z69{f e:Nat}:∀{H:Z00},Zn9 f e H->∀o∈H,o.fam=f->o.sh+o.body.len<=e
 |o::H,h,x,hx,hf=>by
  rcases List.mem_cons.1 hx with e|hx
  ·rw[e]at hf⊢;exact h.1 hf
  ·exact Z69 h.2 x hx hf
def ZlA:Fam Y00 gl:={ I:=Pr,f:=14,G:=λp=>p.threads.length<=9223372036854775807/\Z0v p.threads<=1048576,A:=λp=>[p.av],R:=λp=>.int .i64 (Z0v p.threads),body:=(by kernel_rfl),inj:=(λi j _ _ h=>by rw[Znn (List.cons.inj h).1]),ok:=(λp h=>⟨rfl,ZgA p h.1 h.2⟩) }
def ZlY(f:Nat):Bool:=Nat.beq f 8 || (Nat.beq f 14 || (Nat.beq f 9 || Nat.beq f 7))
theorem jn_law(a b:List UInt8)(ha:a.length<=4000)(hb:b.length<=4000):ValOK Y00 runLives.gl 4 [.str a,.str b] (.bool true):=by
 have hc:(a++10::b).length<=65536:=by rw[Y05,Y0h];omega
 have e1:decide ((a.length:Int)>4000)=false:=by simp;omega
 have e2:decide ((b.length:Int)>4000)=false:=by simp;omega
 obtain⟨oa,sa⟩:=ZcR (s:=a) (by omega)
 obtain⟨ob,sb⟩:=ZcR (s:=b) (by omega)
 obtain⟨la1,la2⟩:=Zh2 (s:=a) (by omega)
 obtain⟨lb1,lb2⟩:=Zh2 (s:=b) (by omega)
 obtain⟨oc,sc⟩:=ZcR hc
 obtain⟨O,hO,p1,p2,p3,-⟩:=fams (P:=Y00) (gl:=runLives.gl) [Z7G,ZlA,Zbn (by kernel_rfl) rfl ZkK] rfl
 have q1:∀s,s.length<=65536->∀H,Z05 Y00 O H 8 [.str s]=some (.tuple [(Z0A s).2.av,.agg [.int .i64 (Z0A s).1.1,.int .i64 (Z0A s).1.2]],H):=λs h=>p1 s h
 have q2:∀p:Pr,p.threads.length<=9223372036854775807/\Z0v p.threads<=1048576->∀H,Z05 Y00 O H 14 [p.av]=some (.int .i64 (Z0v p.threads),H):=λp h=>p2 p h
 have q3:∀H,Z05 Y00 O H 7 []=some (.bool true,H):=p3 () trivial
 clear p1 p2 p3
 have qa:=q1 a (by omega)
 have qb:=q1 b (by omega)
 have qc:=q1 _ hc
 have ja:=λh1 h2=>ZlW ha hb h1 h2
 have jb:=λh1 h2=>ZlV ha hb h1 h2
 have za:=q2 (Z0A a).2 ⟨oa.2.2,by omega⟩
 have zb:=q2 (Z0A b).2 ⟨ob.2.2,by omega⟩
 have xa:=λh=>Zh1 (s:=a) (by omega) h
 have xb:=λh=>Zh1 (s:=b) (by omega) h
 clear q1 q2
 have c1:a.length+({ data:=#[10] }:ByteArray).data.toList.length<=9223372036854775807:=by show a.length+1<=_;omega
 have c2:(a++({ data:=#[10] }:ByteArray).data.toList).length+b.length<=9223372036854775807:=by show (a++[10]).length+b.length<=_;rw[Y05];show a.length+1+b.length<=_;omega
 have hab:a++[10]++b=a++10::b:=by simp
 rw[<- hab]at qc ja jb
 have hj:okX b=true->okX a=false->okX (a++[10]++b)=false:=λh1 h2=>by
  cases h3:okX (a++[10]++b) with
  |false=>rfl
  |true=>have:=ja h1 h3;rw[h2]at this;cases this
 clear ja oc sc
 by_cases h1:okX a=true/\okX b=true
 · obtain⟨h1,h2⟩:=h1
   obtain⟨j1,j2⟩:=jb h1 h2
   have ya:=xa h1
   have yb:=xb h2
   clear jb xa xb hj h1 h2
   rw[ya]at qa za oa sa la1 la2
   rw[yb]at qb zb ob sb lb1 lb2
   generalize Z0J a=pa at *
   generalize Z0J b=pb at *
   obtain⟨da,ta⟩:=pa
   obtain⟨db,tb⟩:=pb
   simp only at oa ob sa sb la1 la2 lb1 lb2 qa qb za zb j1 j2
   by_cases hz:2000<Z0v ta+Z0v tb
   · have j:=j1 hz
     clear j1 j2
     rw[j]at qc
     generalize (Z0A (a++[10]++b)).2=pc at *
     obtain⟨dc,tc⟩:=pc
     generalize Z0v ta=n1 at *
     generalize Z0v tb=n2 at *
     simp only[Pr.av]at *
     have w:IntKind.i64.wrap ((n1:Int)+(n2:Int))=((n1+n2:Nat):Int):=Z7U (by omega)
     have e3:decide (((n1+n2:Nat):Int)>2000)=true:=by simp;omega
     refine Z1z ZlY 3 follows Z06 hO Y08 rfl ?_
     repeat' ((conv=>whnf);first|(refine Y02 c1 ?_)|(refine Y02 c2 ?_)|(refine exW w ?_)|refine exI (Zdt _ _ _ _) ?_|refine exI (qa _) ?_|refine exI (qb _) ?_|refine exI (qc _) ?_|refine exI (q3 _) ?_|refine exI (za _) ?_|refine exI (zb _) ?_|refine stp ?_|with_reducible apply Z01<;>intro h)
     all_goals rfl
   · have j:=j2 hz
     clear j1 j2
     have oc:okP ⟨da++db,ta++tb⟩:=ZlK oa ob (by omega) (by omega)
     have hC:=(Zeu (gl:=runLives.gl) ⟨da++db,ta++tb⟩ ⟨da++db,ta++tb⟩ oc)
     rw[Z9k]at hC
     obtain⟨O',hO',q9',ho⟩:=Zma (I:=Unit) (f0:=9) (G:=λ_=>True) (A:=λ_=>[(Pr.mk (da++db) (ta++tb)).av,(Pr.mk (da++db) (ta++tb)).av]) (R:=λ_=>.bool true) (λ_ _=>rfl) (λ_ _ _ _ _=>rfl) (λ_ _=>hC) (by kernel_rfl) hO
     have q9:=q9' () trivial
     have qa':=λH=>(ho 8 (by decide) _ H).trans (qa H)
     have qb':=λH=>(ho 8 (by decide) _ H).trans (qb H)
     rw[j]at qc
     have qc':=λH=>(ho 8 (by decide) _ H).trans (qc H)
     have q3':=λH=>(ho 7 (by decide) _ H).trans (q3 H)
     have za':=λH=>(ho 14 (by decide) _ H).trans (za H)
     have zb':=λH=>(ho 14 (by decide) _ H).trans (zb H)
     clear q9' ho qa qb qc q3 za zb hO hC j
     generalize hn1:Z0v ta=n1 at *
     generalize hn2:Z0v tb=n2 at *
     have w:IntKind.i64.wrap ((n1:Int)+(n2:Int))=((n1+n2:Nat):Int):=Z7U (by omega)
     have e3:decide (((n1+n2:Nat):Int)>2000)=false:=by simp;omega
     have eD:dcC (da++db)=dcC da++dcC db:=Zdj da db
     have eT:(ta++tb).map stA=ta.map stA++tb.map stA:=Y0i
     have fD:=Z0H (da++db)
     have fT:=ZdT (ta++tb)
     have kD:=Z6M (da++db)
     have kd1:=Z6M da
     have kT:((ta++tb).map stA).length=(ta++tb).length*1:=by simp
     have kt1:(ta.map stA).length=ta.length:=by simp
     have lD:(da++db).length=da.length+db.length:=Y05
     have lT:(ta++tb).length=ta.length+tb.length:=Y05
     simp only[Pr.av]at q9 qa' qb' qc' za' zb'
     generalize (da++db).length=nD at *
     generalize dcC (da++db)=cD at *
     generalize (ta++tb).length=nT at *
     generalize (ta++tb).map stA=cT at *
     subst lD lT eD eT
     clear oa ob ya yb oc hc ha hb hn1 hn2 sa sb hz
     have d1:da=[]\/da.length≠0:=by cases da;exact .inl rfl;exact .inr (by simp)
     have d2:db=[]\/db.length≠0:=by cases db;exact .inl rfl;exact .inr (by simp)
     have d3:ta=[]\/ta.length≠0:=by cases ta;exact .inl rfl;exact .inr (by simp)
     have d4:tb=[]\/tb.length≠0:=by cases tb;exact .inl rfl;exact .inr (by simp)
     refine Z1z ZlY 3 follows Z06 hO' Y08 rfl ?_
     repeat' ((conv=>whnf);first|(refine Y02 c1 ?_)|(refine Y02 c2 ?_)|(refine exW w ?_)|refine exI (Zdt _ _ _ _) ?_|refine exI (qa' _) ?_|refine exI (qb' _) ?_|refine exI (qc' _) ?_|refine exI (q3' _) ?_|refine exI (za' _) ?_|refine exI (zb' _) ?_|refine stp ?_|with_reducible apply Z01<;>intro h)
     rcases d1 with rfl|d1<;>rcases d2 with rfl|d2<;>rcases d3 with rfl|d3<;>rcases d4 with rfl|d4
     all_goals repeat' ((conv=>whnf);first|refine exI (ZaN ZpF rfl) ?_|refine exI (ZaN ZpE rfl) ?_|(refine exI (apD _ d1 rfl ?_ ?_ ?_) ?_;(focus (refine Z69 ?_;simp only[Zn9];(repeat' (first|exact trivial|refine Y02 ?_ ?_));all_goals (first|exact (λh=>absurd h (by decide))|exact (λ_=>Y01 _)|exact (λ_=>by simp[ABody.len]))));(focus (rfl));focus omega)|(refine exI (apD _ d2 rfl ?_ ?_ ?_) ?_;(focus (refine Z69 ?_;simp only[Zn9];(repeat' (first|exact trivial|refine Y02 ?_ ?_));all_goals (first|exact (λh=>absurd h (by decide))|exact (λ_=>Y01 _)|exact (λ_=>by simp[ABody.len]))));(focus (simp[kd1]));focus omega)|(refine exI (apT _ d3 rfl ?_ ?_ ?_) ?_;(focus (refine Z69 ?_;simp only[Zn9];(repeat' (first|exact trivial|refine Y02 ?_ ?_));all_goals (first|exact (λh=>absurd h (by decide))|exact (λ_=>Y01 _)|exact (λ_=>by simp[ABody.len]))));(focus (rfl));focus omega)|(refine exI (apT _ d4 rfl ?_ ?_ ?_) ?_;(focus (refine Z69 ?_;simp only[Zn9];(repeat' (first|exact trivial|refine Y02 ?_ ?_));all_goals (first|exact (λh=>absurd h (by decide))|exact (λ_=>Y01 _)|exact (λ_=>by simp[ABody.len]))));(focus (simp[kd1]));focus omega)|refine exI (Zdt _ _ _ _) ?_|refine stp ?_|with_reducible apply Z01<;>intro h)
     all_goals (conv=>whnf)
     all_goals refine exI (q9 _ _ (ZnU (ZhF rfl rfl) (ZhF ?_ ?_))) ?_
     all_goals (first|exact ZpB (n:=27) rfl fD (by simp[dcC]) (by simp) kD|exact ZpB (n:=27) rfl fT (by simp) (by simp) kT|skip)
     all_goals repeat' ((conv=>whnf);(first|refine stp ?_|with_reducible apply Z01<;>intro h))
     all_goals rfl
 · clear jb xa xb za zb
   have hn:okX a=false\/okX b=false:=by
    cases h:okX a<;>cases h':okX b<;>simp_all
   clear h1
   unfold okX at hj hn
   generalize Z0A a=xa at *
   generalize Z0A b=xb at *
   generalize Z0A (a++[10]++b)=xc at *
   obtain⟨⟨ea,fa⟩,⟨da,ta⟩⟩:=xa
   obtain⟨⟨eb,fb⟩,⟨db,tb⟩⟩:=xb
   obtain⟨⟨ec,fc⟩,⟨dc,tc⟩⟩:=xc
   simp only[Pr.av]at *
   cases ka:(ea==0&&(fa==0&&true))
   · cases kb:(eb==0&&(fb==0&&true))
     · have na:=ZbY ka
       have nb:=ZbY kb
       refine Z1z ZlY 3 follows Z06 hO Y08 rfl ?_
       repeat' ((conv=>whnf);first|(refine Y02 c1 ?_)|(refine Y02 c2 ?_)|refine exI (Zdt _ _ _ _) ?_|refine exI (qa _) ?_|refine exI (qb _) ?_|refine exI (qc _) ?_|refine exI (q3 _) ?_|refine stp ?_|with_reducible apply Z01<;>intro h)
       all_goals (first|rfl|(show AV.bool _=AV.bool true;rw[nc]))
     · have kc:=hj kb ka
       have na:=ZbY ka
       have nb:=Zl8 kb
       have nc:=ZbY kc
       refine Z1z ZlY 3 follows Z06 hO Y08 rfl ?_
       repeat' ((conv=>whnf);first|(refine Y02 c1 ?_)|(refine Y02 c2 ?_)|refine exI (Zdt _ _ _ _) ?_|refine exI (qa _) ?_|refine exI (qb _) ?_|refine exI (qc _) ?_|refine exI (q3 _) ?_|refine stp ?_|with_reducible apply Z01<;>intro h)
       all_goals (first|rfl|(show AV.bool _=AV.bool true;rw[nc]))
   · cases kb:(eb==0&&(fb==0&&true))
     · have na:=Zl8 ka
       have nb:=ZbY kb
       refine Z1z ZlY 3 follows Z06 hO Y08 rfl ?_
       repeat' ((conv=>whnf);first|(refine Y02 c1 ?_)|(refine Y02 c2 ?_)|refine exI (Zdt _ _ _ _) ?_|refine exI (qa _) ?_|refine exI (qb _) ?_|refine exI (qc _) ?_|refine exI (q3 _) ?_|refine stp ?_|with_reducible apply Z01<;>intro h)
       all_goals (first|rfl|(show AV.bool _=AV.bool true;rw[nc]))
     · rw[ka,kb]at hn
       rcases hn with h|h<;>cases h
theorem jn_big(a b:List UInt8)(h:¬(a.length<=4000/\b.length<=4000)):ValOK Y00 runLives.gl 4 [.str a,.str b] (.bool true):=by
 obtain⟨O,hO,p3,-⟩:=fams (P:=Y00) (gl:=runLives.gl) [Zbn (by kernel_rfl) rfl ZkK] rfl
 have q3:∀H,Z05 Y00 O H 7 []=some (.bool true,H):=p3 () trivial
 by_cases ha:a.length<=4000
 · have e1:decide ((a.length:Int)>4000)=false:=by simp;omega
   have e2:decide ((b.length:Int)>4000)=true:=by simp;omega
   refine Z1z ZlY 3 follows Z06 hO Y08 rfl ?_
   repeat' ((conv=>whnf);first|refine exI (q3 _) ?_|refine stp ?_|with_reducible apply Z01<;>intro h)
   all_goals rfl
 · have e1:decide ((a.length:Int)>4000)=true:=by simp;omega
   refine Z1z ZlY 3 follows Z06 hO Y08 rfl ?_
   repeat' ((conv=>whnf);first|refine exI (q3 _) ?_|refine stp ?_|with_reducible apply Z01<;>intro h)
   all_goals rfl
end Go.Proofs.YtneoiadnbikciaaGreatDoor.lex
namespace Go.Proofs.YtneoiadnbikciaaGreatDoor.jnLaw
open Go.Abs Go.RowKit
def Qs:List (AV->Prop):=[λu=>∃s:List UInt8,u = .str s/\s.length<=maxLen,λu=>∃s:List UInt8,u = .str s/\s.length<=maxLen]
theorem opens:Z7R Y00 Tryz.f4.params.toList Qs:=by
 rw[Tryz.params4]
 exact⟨Z9p Y0j,Z9p Y0j,trivial⟩
theorem law(us:List AV)(h:ZmZ Qs us):ValOK Y00 runLives.gl 4 us (.bool true):=by
 obtain⟨_,_,rfl,⟨a,rfl,ha⟩,h1⟩:=Zc1 h
 obtain⟨_,_,rfl,⟨b,rfl,hb⟩,h2⟩:=Zc1 h1
 cases Zkv h2
 by_cases h:a.length<=4000/\b.length<=4000
 ·exact lex.jn_law a b h.1 h.2
 ·exact lex.jn_big a b h
theorem solid:Solid Y00:=by unfold Solid;kernel_rfl
end Go.Proofs.YtneoiadnbikciaaGreatDoor.jnLaw
end

/-
  Texts of this proof, one behind the other (part 14).
-/
import Derived.Test.YtpcpdlfhcahjgaaGreatDoorXd12
set_option linter.unusedVariables false
set_option linter.unusedSimpArgs false
set_option maxRecDepth 100000
set_option maxHeartbeats 4000000
open Go.Proofs.Tryz renaming prog → Y00
section
namespace Go.Abs
open Go.RowKit Go.ChangeShapes Go.WideShapes Go.ChangeAt
section opens
variable {P:Program}
theorem Z4d{t:TypeId}{k:IntKind}(ht:P.underlying t=some (.int k)):Z8y P t λu=>∃n,u = .int k n/\(Lit.int k n).wf=true:=by
 intro H enc W r b v d p hv ⟨fuel,h⟩
 obtain⟨n,rfl⟩:=okWide_int ht hv
 obtain⟨us,⟨n',rfl,hw⟩,hl⟩:=Z1u ht H enc W fuel _ _ h
 exact⟨_,⟨n',rfl,hw⟩,Zj6 (by simpa[Value.cells]using hl)⟩
end opens
end Go.Abs
end
namespace Go.Proofs.YtpcpdlfhcahjgaaGreatDoor.lex
open Go.Abs Go.RowKit
section
section
variable {gl:Z0w}
def Zav(l:List DGr):Bool:=(l.take 9).all Z1G&&decide (l.length<=8)
theorem ZhK(l:List DGr)(i:Nat)(hi:i<l.length)(h:(l.take i).all Z1G=true)(h2:Z1G l[i]=true):(l.take (i+1)).all Z1G=true:=by
 rw[List.take_succ_eq_append_getElem hi,List.all_append,h]
 simp[h2]
theorem Zmg(l:List DGr)(i:Nat)(hi:i<l.length)(h9:i<9)(h2:Z1G l[i]=false):Zav l=false:=by
 unfold Zav
 have:(l.take 9).all Z1G=false:=by
  rw[Bool.eq_false_iff]
  intro h
  have hm:l[i]∈l.take 9:=by
   rw[List.mem_take_iff_getElem]
   exact⟨i,by omega,rfl⟩
  have:=List.all_eq_true.1 h _ hm
  rw[h2]at this;cases this
 rw[this];rfl
theorem ZkC(l:List DGr)(hl:okGs l):ValOK Y00 gl 7 [rsG l,.int .i64 8,.int .i64 60] (.bool (Zav l)):=by
 obtain⟨O,hO,p1,-⟩:=fams (P:=Y00) (gl:=gl) [
  { I := DGr, f := 14, G := okG, A := fun g => [g.av, .int .i64 60], R := fun g => .bool (Z1G g), body := (by kernel_rfl), inj := (fun i j _ _ h => by
     have h1:i.av=j.av:=by simpa using h
     rw[Zdg h1]),ok:=(λg hg=>⟨rfl,Zag g hg⟩) }] rfl
 have h':l.length<=9223372036854775807:=hl.1
 have hat:=λi (hi:i<l.length)=>Z0f (f:=grC) (k:=4) (λ_=>rfl) l i hi
 have q1:∀i (hi:i<l.length),∀H,Z02 Y00 O H 14 [l[i].av,.int .i64 60]=some (.bool (Z1G l[i]),H):=λi hi=>p1 _ (hl.2 _ (List.getElem_mem hi))
 clear p1
 show ValOK _ _ _ [.rs l.length 4 (Z07 grC l),_,_] _
 generalize Z07 grC l=L at *
 refine Z09 follows Z0a hO Tryz.func7 rfl ?_
 repeat' ((conv=>whnf);first|refine stp ?_|with_reducible apply Z01<;>intro h)
 conv=>whnf
 refine⟨Nat,(λi=>i<=l.length/\i<=9/\(l.take i).all Z1G=true),(λi=>[(0,.rs l.length 4 L),(1,.int .i64 8),(2,.int .i64 60),(7,.int .i64 i)]),(λ_=>[]),(λi=>l.length-i),⟨0,⟨Nat.zero_le _,Nat.zero_le _,rfl⟩,FgL.mk0 rfl ?_⟩,?_⟩
 ·exact wks
 rintro i ⟨hi,h9,ha⟩
 dsimp only
 by_cases hlt:i<l.length
 · have e1:decide ((i:Int)<(l.length:Int))=true:=decide_eq_true (by omega)
   by_cases h8:i<=8
   · have e2:decide ((i:Int)<=8)=true:=decide_eq_true (by omega)
     have hx:=hat i hlt
     have q:=q1 i hlt
     have hA:=ZhK l i hlt ha
     have hN:=Zmg l i hlt (by omega)
     generalize Z1G l[i]=b at *
     obtain⟨ini,thr,frm,ord⟩:=l[i]
     simp only[DGr.av,grC,rsI,Z4T,Z58]at hx q
     cases b
     · repeat' ((conv=>whnf);first|with_reducible refine exI (q _) ?_|(refine Z0c (q _) ?_)|(with_reducible refine ixJ i rfl ?_ ?_;focus omega)|refine exI hx ?_|refine stp ?_|with_reducible apply Z01<;>intro h)
       show AV.bool _=AV.bool _
       rw[hN rfl]
     · repeat' ((conv=>whnf);first|with_reducible refine exI (q _) ?_|(refine Z0c (q _) ?_)|(with_reducible refine ixJ i rfl ?_ ?_;focus omega)|refine exI hx ?_|refine stp ?_|with_reducible apply Z01<;>intro h)
       conv=>whnf
       refine⟨i+1,⟨hlt,by omega,hA rfl⟩,by show l.length-(i+1)<l.length-i;omega,FgL.mk0 rfl ?_⟩
       exact wks
   · have e2:decide ((i:Int)<=8)=false:=decide_eq_false (by omega)
     repeat' ((conv=>whnf);first|refine stp ?_|with_reducible apply Z01<;>intro h)
     all_goals show AV.bool _=AV.bool _
     all_goals unfold Zav
     all_goals rw[decide_eq_false (show ¬((l.length:Int)<=8) by omega),decide_eq_false (show ¬(l.length<=8) by omega),Bool.and_false]
 · have e1:decide ((i:Int)<(l.length:Int))=false:=decide_eq_false (by omega)
   have hil:i=l.length:=by omega
   repeat' ((conv=>whnf);first|refine stp ?_|with_reducible apply Z01<;>intro h)
   all_goals show AV.bool _=AV.bool _
   all_goals unfold Zav
   all_goals subst hil
   all_goals rw[List.take_of_length_le (by omega)]at ha
   all_goals rw[List.take_of_length_le (by omega),ha,Bool.true_and]
   all_goals exact congrArg AV.bool (decide_eq_decide.2 (by omega))
end
end
section
theorem Z9h:∀(n:Nat)(s:List UInt8)(a m:List DGr),s.length<=1048576->Z9i n s a=some m->∃l,m=a++l/\Z0b l=s/\(∀g∈l,okG g/\Z0e g=0)/\l.length<=s.length
 |0,s,a,m,_,h=>by cases h
 |n+1,s,a,m,hs,h=>by
  simp only[Z9i]at h
  split at h
  · rename_i he
    cases h
    exact⟨[],by simp,by rw[he];rfl,by simp,Nat.zero_le _⟩
  · cases h1:Zel s with
    |none=>rw[h1]at h;cases h
    |some p =>
     obtain⟨g,r⟩:=p
     rw[h1]at h
     simp only at h
     obtain⟨b1,b2,b3⟩:=Z8O hs h1
     have hp:0<(Z0y g).length:=List.length_pos_iff.2 (Z46 g)
     have hlen:s.length=(Z0y g).length+r.length:=by rw[b3,List.length_append]
     obtain⟨l,c1,c2,c3,c4⟩:=Z9h n r (a++[g]) m (by omega) h
     refine⟨g::l,by rw[c1];simp,by rw[b3,<- c2];rfl,λx hx=>?_,by rw[List.length_cons];omega⟩
     rcases List.mem_cons.1 hx with rfl|hx
     ·exact⟨b1,b2⟩
     ·exact c3 x hx
end
section
variable {gl:Z0w}
def Z4D(n:Int)(m:Nat):Int:=cond (decide (n.tmod m<0)) (n.tmod m+m) (n.tmod m)
theorem Z6C(n:Int){m:Nat}(h:0<m):0<=Z4D n m/\Z4D n m<m:=by
 have h1:=Int.tmod_lt_of_pos n (b:=(m:Int)) (by omega)
 have h2 : -(m:Int)<n.tmod m:=by
  have:=Int.tmod_lt_of_pos (-n) (b:=(m:Int)) (by omega)
  rw[Int.neg_tmod]at this;omega
 unfold Z4D
 cases h3:decide (n.tmod m<0) with
 |true=>have:=of_decide_eq_true h3;simp only[cond_true];omega
 |false=>have:=of_decide_eq_false h3;simp only[cond_false];omega
theorem ZjU(n:Int)(m:Nat)(hm:0<m)(hm2:m<=9223372036854775807):ValOK Y00 gl 12 [.int .i64 n,.int .i64 m] (.int .i64 (Z4D n m)):=by
 refine Z09 follows Z0a Z05 Tryz.func12 rfl ?_
 have h0:(m:Int)≠0:=by omega
 repeat' ((conv=>whnf);first|(refine And.intro h0 ?_)|refine stp ?_|with_reducible apply Z01<;>intro h)
 · show AV.int _ _=AV.int _ _
   have h1:=Z6C n hm
   unfold Z4D at h1⊢
   rw[h]at h1⊢
   simp only[cond_true]at h1⊢
   rw[Z1i (by omega) (by omega)]
 · show AV.int _ _=AV.int _ _
   unfold Z4D
   rw[h];rfl
end
section
theorem Z4i{l:List DGr}(h:Zav l=true):l.length<=8:=by
 unfold Zav at h
 simp only[Bool.and_eq_true,decide_eq_true_eq]at h
 exact h.2
theorem Z8t(t:List UInt8)(ht:t.length<=1048576):Zbk t = .tuple [.nslice,.int .i64 11]\/∃m,Zbk t = .tuple [rsG m,.int .i64 0]/\Z0b m=t/\(∀g∈m,okG g/\Z0e g=0)/\m.length<=1048576:=by
 unfold Zbk
 cases h:Z9i (t.length+1) t [] with
 |none=>exact .inl rfl
 |some m =>
  obtain⟨l,e1,e2,e3,e4⟩:=Z9h _ _ _ _ ht h
  simp only[List.nil_append]at e1
  subst e1
  exact .inr ⟨m,rfl,e2,e3,by omega⟩
theorem ZlG{i j:Int×Nat}(h:([.int .i64 i.1,.int .i64 i.2]:List AV)=[.int .i64 j.1,.int .i64 j.2]):(AV.int .i64 (Z4D i.1 i.2)) = .int .i64 (Z4D j.1 j.2):=by
 simp only[List.cons.injEq,AV.int.injEq,true_and,and_true]at h
 rw[h.1,show i.2=j.2 by omega]
section
abbrev fmT:Fam Y00 runLives.gl:={ I:=List DGr,f:=8,G:=λl=>(∀g∈l,okG g)/\l.length<=1048576,A:=λl=>[rsG l],R:=λl=>Z4r l,body:=(by kernel_rfl),inj:=(λi j _ _ h=>by rw[ZbD (List.cons.inj h).1]),ok:=(λl h=>⟨rfl,Zhj l h.1 h.2⟩) }
abbrev fmF:Fam Y00 runLives.gl:={ I:=List DGr,f:=7,G:=λl=>okGs l,A:=λl=>[rsG l,.int .i64 8,.int .i64 60],R:=λl=>.bool (Zav l),body:=(by kernel_rfl),inj:=(λi j _ _ h=>by rw[ZbD (List.cons.inj h).1]),ok:=(λl h=>⟨rfl,ZkC l h⟩) }
abbrev fmP:Fam Y00 runLives.gl:={ I:=Int×Nat,f:=12,G:=λx=>0<x.2/\x.2<=9223372036854775807,A:=λx=>[.int .i64 x.1,.int .i64 x.2],R:=λx=>.int .i64 (Z4D x.1 x.2),body:=(by kernel_rfl),inj:=(λi j _ _ h=>ZlG h),ok:=(λx h=>⟨rfl,ZjU x.1 x.2 h.1 h.2⟩) }
end
end
end Go.Proofs.YtpcpdlfhcahjgaaGreatDoor.lex

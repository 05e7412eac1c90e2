/-
  Texts of this proof, one behind the other (part 13).
-/
import Derived.Test.YtpcpdlfhcahjgaaGreatDoorXd12
set_option linter.unusedVariables false
set_option linter.unusedSimpArgs false
set_option maxRecDepth 100000
set_option maxHeartbeats 4000000
namespace Go.Proofs.YtpcpdlfhcahjgaaGreatDoor.lex
open Go.Abs Go.RowKit
section
section
variable {gl:Z0w}
theorem Z8g(l:List DGr)(hl:okGs l):ValOK Tryz.prog gl 11 [rsG l,rsG l] (.bool true):=by
 obtain⟨O,hO,p1,-⟩:=fams (P:=Tryz.prog) (gl:=gl) [
  { I:=DGr,f:=18,G:=okG,A:=λg=>[g.av,g.av],R:=λ_=>.bool true,body:=(by kernel_rfl),inj:=(λ_ _ _ _ _=>rfl),ok:=(λg hg=>⟨rfl,Zaj g hg⟩) }] rfl
 have h':l.length<=9223372036854775807:=hl.1
 have hat:=λi (hi:i<l.length)=>Z0f (f:=grC) (k:=4) (λ_=>rfl) l i hi
 have q1:∀i (hi:i<l.length),∀H,Z02 Tryz.prog O H 18 [l[i].av,l[i].av]=some (.bool true,H):=λi hi=>p1 _ (hl.2 _ (List.getElem_mem hi))
 clear p1
 show ValOK _ _ _ [.rs l.length 4 (Z07 grC l),.rs l.length 4 (Z07 grC l)] _
 generalize Z07 grC l=L at *
 refine Z09 follows Z0a hO Tryz.func11 rfl ?_
 have e0:((l.length:Int) != (l.length:Int))=false:=Z3B (b:=true) (by simp)
 repeat' ((conv=>whnf);first|refine stp ?_|with_reducible apply Z01<;>intro h)
 conv=>whnf
 refine⟨Nat,(λi=>i<=l.length),(λi=>[(0,.rs l.length 4 L),(1,.rs l.length 4 L),(5,.int .i64 i)]),(λ_=>[]),(λi=>l.length-i),⟨0,Nat.zero_le _,FgL.mk0 rfl ?_⟩,?_⟩
 ·exact wks
 intro i hi
 dsimp only
 by_cases hlt:i<l.length
 · have e1:decide ((i:Int)<(l.length:Int))=true:=by simpa using hlt
   have hx:=hat i hlt
   have q:=q1 i hlt
   obtain⟨ini,thr,frm,ord⟩:=l[i]
   simp only[DGr.av,grC,rsI,Z4T,Z58]at hx q
   repeat' ((conv=>whnf);first|with_reducible refine exI (q _) ?_|(refine Z0c (q _) ?_)|(with_reducible refine ixJ i rfl ?_ ?_;focus omega)|refine exI hx ?_|refine stp ?_|with_reducible apply Z01<;>intro h)
   conv=>whnf
   refine⟨i+1,hlt,by show l.length-(i+1)<l.length-i;omega,FgL.mk0 rfl ?_⟩
   exact wks
 · have e1:decide ((i:Int)<(l.length:Int))=false:=by simpa using hlt
   repeat' ((conv=>whnf);first|refine stp ?_|with_reducible apply Z01<;>intro h)
   all_goals rfl
end
end
section
theorem Z39{l:List DGr}(h:∀g∈l,okG g/\Z0e g=0):Zbk (Z0b l) = .tuple [rsG l,.int .i64 0]:=by
 unfold Zbk
 rw[Z9g l [] _ h (Nat.lt_succ_self _)]
 rfl
end
end Go.Proofs.YtpcpdlfhcahjgaaGreatDoor.lex

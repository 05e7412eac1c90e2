/-
  Texts of this proof, one behind the other (part 9).
-/
import Derived.Test.YtneoiadnbikciaaGreatDoorXr8
set_option linter.unusedVariables false
set_option linter.unusedSimpArgs false
set_option maxRecDepth 100000
set_option maxHeartbeats 4000000
open Go.Proofs.Tryz renaming prog → Y00
open Bool renaming and_eq_true → Y01
open Nat renaming eq_of_beq_eq_true → Y02
section
namespace Go.Abs
open Go.RowKit
mutual
def wkV:AV->AV->Bool
 | .nslice,.rs 0 _ []=>true
 | .agg a,.agg b=>wkVL a b
 | .rs n z a,.rs n' z' b=>Nat.beq n n'&&(Nat.beq z z'&&wkVL a b)
 | .rp a,.rp b=>wkVL a b
 |u,u2=>veq u u2
def wkVL:List AV->List AV->Bool
 |[],[]=>true
 |u::l,u2::l2=>wkV u u2&&wkVL l l2
 |_,_=>false
end
theorem Zb1:∀{l l2:List AV},wkVL l l2=true->l.length=l2.length
 |[],[],_=>rfl
 |u::l,u2::l2,h=>by simp only[wkVL,Y01]at h;simp[Zb1 h.2]
 |[],_::_,h=>by simp[wkVL]at h
 |_::_,[],h=>by simp[wkVL]at h
mutual
theorem ZmI{sn:Z0o}{ι : Z0n}:∀(u u2:AV)(v:Value),wkV u u2=true->VR sn ι u v->VR sn ι u2 v
 | .agg a,.agg b,v,h,e=>by
  simp only[wkV]at h
  obtain⟨d,rfl,h1⟩:=e.agg
  exact Z33 (wkVL_LR a b _ h h1)
 | .rs n z a,.rs n' z' b,v,h,e=>by
  simp only[wkV,Y01]at h
  obtain⟨h1,h2,h3⟩:=h
  have:=Y02 h1;subst this
  have:=Y02 h2;subst this
  have hl:=Zb1 h3
  simp only[VR]at e⊢
  rcases e with ⟨e1,rfl,e3⟩|⟨ad,cap,e1,e2,e3,e4,e5⟩
  ·exact .inl ⟨e1,by cases b with|nil=>rfl|cons _ _=>simp at hl,e3⟩
  ·exact .inr ⟨ad,cap,e1,e2,by rw[<- hl];exact e3,wkVL_MR a b _ _ h3 e4,e5⟩
 | .rp a,.rp b,v,h,e=>by
  simp only[wkV]at h
  simp only[VR]at e⊢
  obtain⟨bl,o,e1,e2⟩:=e
  exact⟨bl,o,e1,wkVL_MR a b _ _ h e2⟩
 |u,u2,v,h,e=>by
  by_cases hn:u = .nslice/\∃z,u2 = .rs 0 z []
  · obtain⟨rfl,z,rfl⟩:=hn
    exact Z2o e
  · have : veq u u2 = true \/ ((∃ a b, u = .agg a /\ u2 = .agg b) \/ (∃ n z a n' z' b, u = .rs n z a /\ u2 = .rs n' z' b) \/ (∃ a b, u = .rp a /\ u2 = .rp b)) := by
     unfold wkV at h
     split at h
     ·exact (hn ⟨rfl,_,rfl⟩).elim
     ·exact .inr (.inl ⟨_,_,rfl,rfl⟩)
     ·exact .inr (.inr (.inl ⟨_,_,_,_,_,_,rfl,rfl⟩))
     ·exact .inr (.inr (.inr ⟨_,_,rfl,rfl⟩))
     ·exact .inl h
    rcases this with h|⟨a,b,rfl,rfl⟩|⟨n,z,a,n',z',b,rfl,rfl⟩|⟨a,b,rfl,rfl⟩
    ·have:=Zcs _ _ h;subst this;exact e
    · simp only[wkV]at h
      obtain⟨d,rfl,h1⟩:=e.agg
      exact Z33 (wkVL_LR a b _ h h1)
    · simp only[wkV,Y01]at h
      obtain⟨h1,h2,h3⟩:=h
      have:=Y02 h1;subst this
      have:=Y02 h2;subst this
      have hl:=Zb1 h3
      simp only[VR]at e⊢
      rcases e with ⟨e1,rfl,e3⟩|⟨ad,cap,e1,e2,e3,e4,e5⟩
      ·exact .inl ⟨e1,by cases b with|nil=>rfl|cons _ _=>simp at hl,e3⟩
      ·exact .inr ⟨ad,cap,e1,e2,by rw[<- hl];exact e3,wkVL_MR a b _ _ h3 e4,e5⟩
    · simp only[wkV]at h
      simp only[VR]at e⊢
      obtain⟨bl,o,e1,e2⟩:=e
      exact⟨bl,o,e1,wkVL_MR a b _ _ h e2⟩
theorem wkVL_LR{sn:Z0o}{ι : Z0n}:∀(l l2:List AV)(vs:List Value),wkVL l l2=true->LR sn ι l vs->LR sn ι l2 vs
 |[],[],vs,h,e=>e
 |u::l,u2::l2,vs,h,e=>by
  simp only[wkVL,Y01]at h
  simp only[LR]at e⊢
  obtain⟨d,ds,e1,e2,e3⟩:=e
  exact⟨d,ds,e1,ZmI u u2 d h.1 e2,wkVL_LR l l2 ds h.2 e3⟩
 |[],_::_,_,h,_=>by simp[wkVL]at h
 |_::_,[],_,h,_=>by simp[wkVL]at h
theorem wkVL_MR{sn:Z0o}:∀(l l2:List AV)(b o:Nat),wkVL l l2=true->MR sn l b o->MR sn l2 b o
 |[],[],b,o,h,e=>e
 |u::l,u2::l2,b,o,h,e=>by
  simp only[wkVL,Y01]at h
  simp only[MR]at e⊢
  obtain⟨⟨v,e1,e2⟩,e3⟩:=e
  exact⟨⟨v,e1,ZmI u u2 v h.1 e2⟩,wkVL_MR l l2 b (o+1) h.2 e3⟩
 |[],_::_,_,_,h,_=>by simp[wkVL]at h
 |_::_,[],_,_,h,_=>by simp[wkVL]at h
end
theorem ValOK.nils{P:Program}{gl:Z0k}{f:Nat}{args args2:List AV}{r:AV}(h:ValOK P gl f args2 r)(hw:wkVL args args2=true):ValOK P gl f args r :=
 h.weak λsn vs e=>wkVL_LR args args2 vs hw e
end Go.Abs
end
namespace Go.Proofs.YtneoiadnbikciaaGreatDoor.lex
open Go.Abs Go.RowKit
section
def txC:List UInt8 := "a + b * c == 1 || !d".toUTF8.data.toList
def txD:List UInt8 := "shared x = -1;".toUTF8.data.toList
def txE:List UInt8 := "if (a) { fence(sc); } else if (b) { }".toUTF8.data.toList
def nmE(b:UInt8):Ex:=.mk 2 0 [b] []
def exC0:Ex:=.mk 5 0 [] [.mk 7 0 [] [.mk 14 0 [] [nmE 97,.mk 16 0 [] [nmE 98,nmE 99]],.mk 1 1 [] []],.mk 4 0 [] [nmE 100]]
def slE:List St:=[.mk 10 [] [] 0 [nmE 97] [.mk 7 [] [] 6 [] [] []] [.mk 10 [] [] 0 [nmE 98] [] []]]
theorem pxC:Z26 txC=((0,0),exC0):=by kernel_rfl
theorem pxD:Z0S txD=((5,11),⟨[],[]⟩):=by kernel_rfl
theorem pxE:Z17 txE=((0,0),slE):=by kernel_rfl
end
end Go.Proofs.YtneoiadnbikciaaGreatDoor.lex
section
namespace Go.Proofs.YtneoiadnbikciaaGreatDoor.lex
open Go.Abs Go.RowKit
variable {gl:Z0k}
def nlK:List AV->AV
 |[]=>.nslice
 |a::l=>.rs ((l.length+1) / 4) 4 (a::l)
def nlE(o n:Int)(s:List UInt8)(k:List AV):List AV:=[.int .i64 o,.int .i64 n,.str s,nlK k]
def nlN(b:UInt8):List AV:=nlE 2 0 [b] []
def Zr3:List AV:=nlE 5 0 [] (nlE 7 0 [] (nlE 14 0 [] (nlN 97++nlE 16 0 [] (nlN 98++nlN 99))++nlE 1 1 [] [])++nlE 4 0 [] (nlN 100))
theorem okC:okE exC0:=by simp[okE,okL,okN,exC0,nmE]
def Zsq(f:Nat):Bool:=Nat.beq f 8 || (Nat.beq f 19 || (Nat.beq f 15 || (Nat.beq f 20 || Nat.beq f 7)))
theorem nm_law:ValOK Y00 runLives.gl 5 [] (.bool true):=by
 have a1:=Zgc (s:=txC) (by decide)
 have a2:=Z9d (s:=txD) (by decide)
 have a3:=ZcA (s:=txE) (by decide)
 have a4:=Z8B (gl:=runLives.gl) _ exC0 exC0 (Nat.le_refl _) okC
 rw[pxC]at a1
 rw[pxD]at a2
 rw[pxE]at a3
 rw[Z7d]at a4
 replace a4:ValOK Y00 runLives.gl 20 [.agg exC0.cells,.agg Zr3] (.bool true):=a4.nils rfl
 obtain⟨O1,hO1,p1,p2,p3,p5,-⟩:=fams (P:=Y00) (gl:=runLives.gl) [Z2X (by kernel_rfl) rfl a1,Z2X (by kernel_rfl) rfl a2,Z2X (by kernel_rfl) rfl a3,Z2X (by kernel_rfl) rfl ZiU] rfl
 obtain⟨O,hO,q4,ho⟩:=Zg7 hO1 (f0:=20) rfl a4 (by kernel_rfl)
 have q1:=λH=>(ho 15 (by decide) _ _).trans (p1 () trivial H)
 have q2:=λH=>(ho 8 (by decide) _ _).trans (p2 () trivial H)
 have q3:=λH=>(ho 19 (by decide) _ _).trans (p3 () trivial H)
 have q5:=λH=>(ho 7 (by decide) _ _).trans (p5 () trivial H)
 simp only[Z2X,Pr.av,stA,Ex.cells]at q1 q2 q3 q5
 clear p1 p2 p3 p5 a1 a2 a3 a4 ho hO1
 refine Z2f Zsq 3 follows Z05 hO Tryz.func5 rfl ?_
 repeat' ((conv=>whnf);first|refine exI (Zpc _ _ _ _) ?_|refine exI (q5 _) ?_|refine exI (q1 _) ?_|refine exI (q2 _) ?_|refine exI (q3 _) ?_|refine exI (q4 _ _ rfl) ?_|refine stp ?_|with_reducible apply Z01<;>intro h)
 all_goals first|rfl|trace_state
end Go.Proofs.YtneoiadnbikciaaGreatDoor.lex
namespace Go.Proofs.YtneoiadnbikciaaGreatDoor.nmLaw
open Go.Abs Go.RowKit
def Qs:List (AV->Prop):=[]
theorem opens:Z6Z Y00 Tryz.f5.params.toList Qs:=by
 rw[Tryz.params5]
 exact trivial
theorem law(us:List AV)(h:Znp Qs us):ValOK Y00 runLives.gl 5 us (.bool true):=by
 cases ZgD h
 exact lex.nm_law
theorem solid:Solid Y00:=by unfold Solid;kernel_rfl
end Go.Proofs.YtneoiadnbikciaaGreatDoor.nmLaw
end

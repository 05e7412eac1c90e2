/-
  Texts of this proof, one behind the other (part 7).
-/
import Derived.Test.YtneoiadnbikciaaGreatDoorXr6
set_option linter.unusedVariables false
set_option linter.unusedSimpArgs false
set_option linter.unusedSectionVars false
set_option maxRecDepth 100000
set_option maxHeartbeats 4000000
open Go.Proofs.Tryz renaming prog → Y00
open Nat renaming le_refl → Y01,beq → Y03,zero_le → Y05,le_trans → Y0i,eq_of_beq_eq_true → Y0j,le_of_eq → Y0s
open Go.Abs.Wk renaming ptr → Y02,noref → Y04,func → Y06,int → Y08,slice → Y0f
open Bool renaming and_eq_true → Y07,and_true → Y0m,true_and → Y0q,and_false → Y0x,or_eq_true → Y0A,and_eq_false_iff → Y0B,eq_iff_iff → Y0D,not_eq_true' → Y0E
open List renaming length_cons → Y09,append_nil → Y0c,length_nil → Y0g,take_succ_cons → Y0h,length_take → Y0k,length_append → Y0l,mem_cons → Y0n,take_length → Y0o,getElem_cons_succ → Y0p,cons_append → Y0r,mem_append → Y0t,mem_singleton → Y0u,not_mem_nil → Y0v,getElem_cons_zero → Y0w,length_drop → Y0y,contains_iff_mem → Y0z,getElem?_eq_none → Y0C,length_singleton → Y0F,nil_append → Y0G
open Go.Abs.BodyGe renaming cellsL → Y0a,pre → Y0e
open Go.Abs.FgL renaming mk → Y0b
open And renaming intro → Y0d
section
namespace Go.Proofs.YtneoiadnbikciaaGreatDoor.runLives
open Go.RowKit Go.Abs
def ZrO:List AV:=[.int .u8 (.ofNat 0),.int .u8 (.ofNat 1),.int .u8 (.ofNat 28),.int .u8 (.ofNat 2),.int .u8 (.ofNat 29),.int .u8 (.ofNat 14),.int .u8 (.ofNat 24),
 .int .u8 (.ofNat 3),.int .u8 (.ofNat 30),.int .u8 (.ofNat 22),.int .u8 (.ofNat 20),.int .u8 (.ofNat 15),.int .u8 (.ofNat 25),
 .int .u8 (.ofNat 17),.int .u8 (.ofNat 4),.int .u8 (.ofNat 8),.int .u8 (.ofNat 31),.int .u8 (.ofNat 27),.int .u8 (.ofNat 13),.int .u8 (.ofNat 23),
 .int .u8 (.ofNat 21),.int .u8 (.ofNat 19),.int .u8 (.ofNat 16),.int .u8 (.ofNat 7),.int .u8 (.ofNat 26),.int .u8 (.ofNat 12),
 .int .u8 (.ofNat 18),.int .u8 (.ofNat 6),.int .u8 (.ofNat 11),.int .u8 (.ofNat 5),.int .u8 (.ofNat 10),.int .u8 (.ofNat 9)]
def ZrN:List AV:=[.int .u8 (.ofNat 0),.int .u8 (.ofNat 1),.int .u8 (.ofNat 56),.int .u8 (.ofNat 2),.int .u8 (.ofNat 57),.int .u8 (.ofNat 49),.int .u8 (.ofNat 28),
 .int .u8 (.ofNat 3),.int .u8 (.ofNat 61),.int .u8 (.ofNat 58),.int .u8 (.ofNat 42),.int .u8 (.ofNat 50),.int .u8 (.ofNat 38),
 .int .u8 (.ofNat 29),.int .u8 (.ofNat 17),.int .u8 (.ofNat 4),.int .u8 (.ofNat 62),.int .u8 (.ofNat 47),.int .u8 (.ofNat 59),
 .int .u8 (.ofNat 36),.int .u8 (.ofNat 45),.int .u8 (.ofNat 43),.int .u8 (.ofNat 51),.int .u8 (.ofNat 22),.int .u8 (.ofNat 53),
 .int .u8 (.ofNat 39),.int .u8 (.ofNat 33),.int .u8 (.ofNat 30),.int .u8 (.ofNat 24),.int .u8 (.ofNat 18),.int .u8 (.ofNat 12),
 .int .u8 (.ofNat 5),.int .u8 (.ofNat 63),.int .u8 (.ofNat 55),.int .u8 (.ofNat 48),.int .u8 (.ofNat 27),.int .u8 (.ofNat 60),
 .int .u8 (.ofNat 41),.int .u8 (.ofNat 37),.int .u8 (.ofNat 16),.int .u8 (.ofNat 46),.int .u8 (.ofNat 35),.int .u8 (.ofNat 44),
 .int .u8 (.ofNat 21),.int .u8 (.ofNat 52),.int .u8 (.ofNat 32),.int .u8 (.ofNat 23),.int .u8 (.ofNat 11),.int .u8 (.ofNat 54),
 .int .u8 (.ofNat 26),.int .u8 (.ofNat 40),.int .u8 (.ofNat 15),.int .u8 (.ofNat 34),.int .u8 (.ofNat 20),.int .u8 (.ofNat 31),
 .int .u8 (.ofNat 10),.int .u8 (.ofNat 25),.int .u8 (.ofNat 14),.int .u8 (.ofNat 19),.int .u8 (.ofNat 9),.int .u8 (.ofNat 13),.int .u8 (.ofNat 8),
 .int .u8 (.ofNat 7),.int .u8 (.ofNat 6)]
def ZrM:List AV:=[.int .u64 (.ofNat 1),.int .u64 (.ofNat 10),.int .u64 (.ofNat 100),.int .u64 (.ofNat 1000),.int .u64 (.ofNat 10000),.int .u64 (.ofNat 100000),
 .int .u64 (.ofNat 1000000),.int .u64 (.ofNat 10000000),.int .u64 (.ofNat 100000000),.int .u64 (.ofNat 1000000000),.int .u64 (.ofNat 10000000000),
 .int .u64 (.ofNat 100000000000),.int .u64 (.ofNat 1000000000000),.int .u64 (.ofNat 10000000000000),.int .u64 (.ofNat 100000000000000),
 .int .u64 (.ofNat 1000000000000000),.int .u64 (.ofNat 10000000000000000),.int .u64 (.ofNat 100000000000000000),
 .int .u64 (.ofNat 1000000000000000000),.int .u64 (.ofNat 10000000000000000000)]
def ZrL:List AV:=[.bool false,.bool false,.int .i64 (.ofNat 0),.bool true,.bool false,.int .i64 (.ofNat 0),.bool false,.bool true,.int .i64 (.ofNat 0),
 .bool false,.bool false,.int .i64 (.ofNat 1),.bool false,.bool false,.int .i64 (.ofNat 1),.bool false,.bool false,.int .i64 (.ofNat 2),
 .bool false,.bool false,.int .i64 (.ofNat 2),.bool false,.bool false,.int .i64 (.ofNat 2),.bool false,.bool false,.int .i64 (.ofNat 2),
 .bool false,.bool false,.int .i64 (.ofNat 2),.bool false,.bool false,.int .i64 (.ofNat 2),.bool false,.bool false,.int .i64 (.ofNat 2),
 .bool false,.bool false,.int .i64 (.ofNat 2),.bool false,.bool false,.int .i64 (.ofNat 2),.bool false,.bool false,.int .i64 (.ofNat 2),
 .bool false,.bool false,.int .i64 (.ofNat 2),.bool false,.bool false,.int .i64 (.ofNat 2)]
def ZrK:List AV:=[.bool false,.bool false,.bool false,.int .i64 (.ofNat 0),.bool false,.bool false,.bool true,.bool false,.bool false,.int .i64 (.ofNat 1),
 .bool false,.bool false,.bool true,.bool true,.bool true,.int .i64 (.ofNat 0),.bool false,.bool false,.bool false,.bool true,.bool true,
 .int .i64 (.ofNat 1),.bool false,.bool false,.bool true,.bool true,.bool true,.int .i64 (.ofNat 2),.bool false,.bool false,.bool true,
 .bool true,.bool true,.int .i64 (.ofNat 1),.bool false,.bool false,.bool true,.bool true,.bool true,.int .i64 (.ofNat 1),.bool false,
 .bool false,.bool false,.bool false,.bool true,.int .i64 (.ofNat 0),.bool false,.bool false,.bool false,.bool false,.bool false,
 .int .i64 (.ofNat 1),.bool false,.bool false,.bool false,.bool false,.bool false,.int .i64 (.ofNat 1),.bool false,.bool false,.bool false,
 .bool false,.bool false,.int .i64 (.ofNat 1),.bool true,.bool true,.bool false,.bool false,.bool false,.int .i64 (.ofNat 1),.bool true,
 .bool false]
def Zse:List AV:=[.iface 169 (.rp [.str [118,97,108,117,101,32,111,117,116,32,111,102,32,114,97,110,103,101]])]
def Zsd:List AV:=[.iface 169 (.rp [.str [105,110,118,97,108,105,100,32,115,121,110,116,97,120]])]
def gl:Z0k:=λg=>if Y03 g 6 then some ZrO else if Y03 g 7 then some ZrN else if Y03 g 5 then some ZrM else if Y03 g 0 then some ZrL else if Y03 g 1 then some ZrK else if Y03 g 3 then some Zse else if Y03 g 2 then some Zsd else none
theorem follows:Y00.follows .mixedOrders=true:=by kernel_rfl
theorem Zbu:(Y00.funcs.toList.all λfn=>!(fn.name == "runtime.NumGoroutine"))=true:=by kernel_rfl
theorem Z05:NoNum Y00:=⟨λg fn h=>by
 have h1:=List.all_eq_true.1 Zbu fn (Array.mem_toList_iff.2 (Array.mem_of_getElem? h))
 simpa using h1,of_decide_eq_true (by kernel_rfl)⟩
theorem n0:Y00.globalNamed "math/bits.deBruijn32tab" = some 6:=by kernel_rfl
theorem ty0:(Y00.globals[6]?).map (·.type)=some 184:=by kernel_rfl
theorem av0:Zkk Y00 6 184 (Rows.laid_math_bits_deBruijn32tab (H:=Unit))=some ZrO:=by kernel_rfl
theorem n1:Y00.globalNamed "math/bits.deBruijn64tab" = some 7:=by kernel_rfl
theorem ty1:(Y00.globals[7]?).map (·.type)=some 185:=by kernel_rfl
theorem av1:Zkk Y00 6 185 (Rows.laid_math_bits_deBruijn64tab (H:=Unit))=some ZrN:=by kernel_rfl
theorem n2:Y00.globalNamed "internal/strconv.uint64pow10" = some 5:=by kernel_rfl
theorem ty2:(Y00.globals[5]?).map (·.type)=some 179:=by kernel_rfl
theorem av2:Zkk Y00 6 179 (Rows.laid_internal_strconv_uint64pow10 (H:=Unit))=some ZrM:=by kernel_rfl
theorem n3:Y00.globalNamed "cantilever/ast.shapes" = some 0:=by kernel_rfl
theorem ty3:(Y00.globals[0]?).map (·.type)=some 135:=by kernel_rfl
theorem av3:Zkk Y00 6 135 (Rows.laid_cantilever_ast_shapes (H:=Unit))=some ZrL:=by kernel_rfl
theorem n4:Y00.globalNamed "cantilever/ast.forms" = some 1:=by kernel_rfl
theorem ty4:(Y00.globals[1]?).map (·.type)=some 138:=by kernel_rfl
theorem av4:Zkk Y00 6 138 (Rows.laid_cantilever_ast_forms (H:=Unit))=some ZrK:=by kernel_rfl
theorem ZrP : "*" ++ "errors.errorString" = "*errors.errorString" := by decide
theorem Zq6(u:TypeId)(h:Y00.typeName? 3 u=some "*errors.errorString"):u=169 :=
 typeName_ptr_named (nm := "errors.errorString") (by rw[ZrP];kernel_rfl) (by kernel_rfl) (by decide) u (by rw[ZrP];exact h)
noncomputable def fld:Field:=match Y00.underlying 171 with|some (.struct fs)=>(fs.toList.head?).getD default|_=>default
theorem unE:Y00.underlying 171=some (.struct #[fld]):=by kernel_rfl
theorem unP:Y00.underlying 169=some (.pointer 171):=by kernel_rfl
theorem unS:Y00.underlying 9=some .string:=by kernel_rfl
theorem ZrY:fld.type=9:=by kernel_rfl
theorem ZrZ:fld.offset=0:=by kernel_rfl
theorem Zne:Y00.cellsOf 171=1:=by kernel_rfl
theorem Znd:Y00.cellsOf 9=1:=by kernel_rfl
theorem sn0:Y00.globalNamed "strconv.ErrRange" = some 3:=by kernel_rfl
theorem Zsa:(Y00.globals[3]?).map (·.type)=some 149:=by kernel_rfl
noncomputable def Zsj:Array (String×TypeId):=match Y00.underlying 149 with|some (.interface ms)=>ms|_=>#[]
theorem Zs6:Y00.underlying 149=some (.interface Zsj):=by kernel_rfl
theorem sn1:Y00.globalNamed "strconv.ErrSyntax" = some 2:=by kernel_rfl
theorem Zs9:(Y00.globals[2]?).map (·.type)=some 149:=by kernel_rfl
noncomputable def Zsi:Array (String×TypeId):=match Y00.underlying 149 with|some (.interface ms)=>ms|_=>#[]
theorem Zs5:Y00.underlying 149=some (.interface Zsi):=by kernel_rfl
theorem globs{W:World}(h:laidMetH Y00 [("math/bits.deBruijn32tab", Rows.laid_math_bits_deBruijn32tab), ("math/bits.deBruijn64tab", Rows.laid_math_bits_deBruijn64tab), ("internal/strconv.uint64pow10", Rows.laid_internal_strconv_uint64pow10), ("strconv.ErrRange", Rows.laid_strconv_ErrRange), ("strconv.ErrSyntax", Rows.laid_strconv_ErrSyntax), ("cantilever/ast.shapes", Rows.laid_cantilever_ast_shapes), ("cantilever/ast.forms", Rows.laid_cantilever_ast_forms)] W):GlOK gl (Z4H W):=by
 have h':laidMet Y00 [("math/bits.deBruijn32tab", Rows.laid_math_bits_deBruijn32tab), ("math/bits.deBruijn64tab", Rows.laid_math_bits_deBruijn64tab), ("internal/strconv.uint64pow10", Rows.laid_internal_strconv_uint64pow10), ("strconv.ErrRange", Rows.laid_strconv_ErrRange), ("strconv.ErrSyntax", Rows.laid_strconv_ErrSyntax), ("cantilever/ast.shapes", Rows.laid_cantilever_ast_shapes), ("cantilever/ast.forms", Rows.laid_cantilever_ast_forms)] W:=h
 obtain⟨_,hv,_⟩:=id h'
 obtain⟨m0,_⟩:=Z4T n0 ty0 av0 hv
 have h':=laidMet.tail h'
 obtain⟨_,hv,_⟩:=id h'
 obtain⟨m1,_⟩:=Z4T n1 ty1 av1 hv
 have h':=laidMet.tail h'
 obtain⟨_,hv,_⟩:=id h'
 obtain⟨m2,_⟩:=Z4T n2 ty2 av2 hv
 have h':=laidMet.tail h'
 have s0:=ZcX h' sn0 Zsa Zs6 Zq6 unP unE ZrY ZrZ unS Zne Znd
 have h':=laidMet.tail h'
 have s1:=ZcX h' sn1 Zs9 Zs5 Zq6 unP unE ZrY ZrZ unS Zne Znd
 have h':=laidMet.tail h'
 obtain⟨_,hv,_⟩:=id h'
 obtain⟨m3,_⟩:=Z4T n3 ty3 av3 hv
 have h':=laidMet.tail h'
 obtain⟨_,hv,_⟩:=id h'
 obtain⟨m4,_⟩:=Z4T n4 ty4 av4 hv
 intro g cs hg
 unfold gl at hg
 split at hg
 ·rename_i e;have:=Y0j e;subst this;simp at hg;subst hg;exact m0
 split at hg
 ·rename_i e;have:=Y0j e;subst this;simp at hg;subst hg;exact m1
 split at hg
 ·rename_i e;have:=Y0j e;subst this;simp at hg;subst hg;exact m2
 split at hg
 ·rename_i e;have:=Y0j e;subst this;simp at hg;subst hg;exact m3
 split at hg
 ·rename_i e;have:=Y0j e;subst this;simp at hg;subst hg;exact m4
 split at hg
 ·rename_i e;have:=Y0j e;subst this;simp at hg;subst hg;exact s0
 split at hg
 ·rename_i e;have:=Y0j e;subst this;simp at hg;subst hg;exact s1
 cases hg
end Go.Proofs.YtneoiadnbikciaaGreatDoor.runLives
end
namespace Go.Proofs.YtneoiadnbikciaaGreatDoor.lex.pg
open Go.Abs Go.RowKit
section
variable {gl:Z0k}
theorem ZdS{f:Nat}{xs:List AV}{r:AV}(h:F3 f xs=some r):plain r=true/\ValOK Y00 gl f xs r:=by
 unfold F3 at h
 split at h
 · split at h<;>try (cases h;done)
   split at h<;>try (cases h;done)
   rename_i hs
   unfold ZnJ at h
   split at h<;>cases h
   ·exact⟨rfl,Z3E 124 Z4s (λ_=>rfl) (by kernel_rfl) _ hs⟩
   ·exact⟨rfl,Z3E 125 Z0W (λ_=>rfl) (by kernel_rfl) _ hs⟩
   ·exact⟨rfl,Z3E 113 Z4l (λ_=>rfl) (by kernel_rfl) _ hs⟩
   ·exact⟨rfl,Z3E 115 (· != 10) (λ_=>rfl) (by kernel_rfl) _ hs⟩
 ·exact ZaU h
theorem Ziz(n:Nat):plain (puR n)=true:=by unfold puR;split<;>rfl
def F4(f:Nat)(xs:List AV):Option AV:=match f with
 |131=>match xs with
  |[.str s,.int .i64 10,.int .i64 64]=>if Znb s then some (puR (Z2U s)) else none
  |_=>none
 |f=>F3 f xs
theorem ZgL{f:Nat}{xs:List AV}{r:AV}(h:F4 f xs=some r):plain r=true/\ValOK Y00 gl f xs r:=by
 unfold F4 at h
 split at h
 · split at h<;>try (cases h;done)
   split at h<;>cases h
   rename_i hd
   obtain⟨h1,h2,h3⟩:=ZbR hd
   exact⟨Ziz _,Zrc _ h1 h2 h3⟩
 ·exact ZdS h
theorem Z71:OrcSound Y00 gl (Z6v F4):=Z0J λf xs r h=>ZgL h
def piR(n:Nat):AV:=if n<9223372036854775808 then .tuple [.int .i64 n,.niface] else .tuple [.int .i64 9223372036854775807,.iface 154 (.int .i64 1)]
theorem ZiB{n:Nat}(h:n<9223372036854775808):piR n = .tuple [.int .i64 n,.niface]:=by unfold piR;rw[if_pos h]
theorem ZiC{n:Nat}(h:¬n<9223372036854775808):piR n = .tuple [.int .i64 9223372036854775807,.iface 154 (.int .i64 1)]:=by unfold piR;rw[if_neg h]
theorem w63:IntKind.u64.wrap (1*2 ^ min (IntKind.u64.wrap (64-1)).toNat IntKind.u64.bits)=9223372036854775808:=by decide
theorem ZrJ:IntKind.i64.wrap (IntKind.u64.wrap (9223372036854775808-1))=9223372036854775807:=by decide
theorem Zrd(l:List UInt8)(hd:Znb l=true):ValOK Y00 gl 128 [.str l,.int .i64 10,.int .i64 64] (piR (Z2U l)):=by
 obtain⟨h1,h2,h3⟩:=ZbR hd
 have hb:Z0m Y00 131=true:=by kernel_rfl
 have e0:F4 131 [.str l,.int .i64 10,.int .i64 64]=some (puR (Z2U l)):=by simp only[F4];rw[if_pos hd]
 have e1:(l==[])=false:=by simpa using h1
 obtain⟨c,t,rfl⟩:∃c t,l=c::t:=by cases l with|nil=>exact absurd rfl h1|cons c t=>exact⟨c,t,rfl⟩
 have hc:=h3 c (by simp)
 simp only[Z0W,Y07,decide_eq_true_eq]at hc
 have hc0:(c::t)[0]? = some c:=rfl
 have n1:((c.toNat:Int)==43)=false:=by simp;omega
 have n2:((c.toNat:Int)==45)=false:=by simp;omega
 by_cases h63:Z2U (c::t)<9223372036854775808
 · rw[ZiB h63]
   have e2:F4 131 [.str (c::t),.int .i64 10,.int .i64 64]=some (.tuple [.int .u64 (Z2U (c::t)),.niface]):=by rw[e0];unfold puR;rw[if_pos (by omega)]
   generalize Z2U (c::t)=v at *
   refine Z0v follows Z05 Z71 Tryz.func128 rfl ?_
   repeat' ((conv=>whnf);first|with_reducible refine ixS 0 rfl hc0 ?_|with_reducible refine exI (Z1d hb rfl e2) ?_|refine stp ?_|with_reducible apply Z01<;>intro h)
   ·exfalso;rw[w63]at h;simp only[decide_eq_true_eq]at h;omega
   ·rw[IntWalk.i64_in _ ⟨by omega,by omega⟩]
 · rw[ZiC h63]
   by_cases h64:Z2U (c::t)<18446744073709551616
   · have e2:F4 131 [.str (c::t),.int .i64 10,.int .i64 64]=some (.tuple [.int .u64 (Z2U (c::t)),.niface]):=by rw[e0];unfold puR;rw[if_pos (by omega)]
     generalize Z2U (c::t)=v at *
     refine Z0v follows Z05 Z71 Tryz.func128 rfl ?_
     repeat' ((conv=>whnf);first|with_reducible refine ixS 0 rfl hc0 ?_|with_reducible refine exI (Z1d hb rfl e2) ?_|refine stp ?_|with_reducible apply Z01<;>intro h)
     ·rw[w63,ZrJ]
     ·exfalso;rw[w63]at h;simp only[decide_eq_false_iff_not]at h;omega
   · have e2:F4 131 [.str (c::t),.int .i64 10,.int .i64 64]=some (.tuple [.int .u64 18446744073709551615,.iface 154 (.int .i64 1)]):=by rw[e0];unfold puR;rw[if_neg (by omega)]
     refine Z0v follows Z05 Z71 Tryz.func128 rfl ?_
     repeat' ((conv=>whnf);first|with_reducible refine ixS 0 rfl hc0 ?_|with_reducible refine exI (Z1d hb rfl e2) ?_|refine stp ?_|with_reducible apply Z01<;>intro h)
     ·rw[w63,ZrJ]
theorem ZiA(n:Nat):plain (piR n)=true:=by unfold piR;split<;>rfl
def F5(f:Nat)(xs:List AV):Option AV:=match f with
 |128=>match xs with
  |[.str s,.int .i64 10,.int .i64 64]=>if Znb s then some (piR (Z2U s)) else none
  |_=>none
 |139=>match xs with
  |[.str s]=>if s.length<=1099511627776 then some (.str s) else none
  |_=>none
 |f=>F4 f xs
theorem ZgK{f:Nat}{xs:List AV}{r:AV}(h:F5 f xs=some r):plain r=true/\ValOK Y00 gl f xs r:=by
 unfold F5 at h
 split at h
 · split at h<;>try (cases h;done)
   split at h<;>cases h
   rename_i hd
   exact⟨ZiA _,Zrd _ hd⟩
 · split at h<;>try (cases h;done)
   split at h<;>cases h
   rename_i hd
   exact⟨rfl,Zmq _ hd⟩
 ·exact ZgL h
theorem Z8L:OrcSound Y00 gl (Z6v F5):=Z0J λf xs r h=>ZgK h
theorem Zq3(s:List UInt8)(hs:s.length<=1099511627776):ValOK Y00 runLives.gl 117 [.str s] (.tuple [.int .i64 (Z1R s).1,.int .i64 (Z1R s).2]):=by
 refine Z2f (λg=>Y03 g 112 || Y03 g 123 || Y03 g 128 || Y03 g 139) 4 follows Z05 Z8L Tryz.func117 rfl ?_
 have h1:=Z4f Z0W s
 by_cases hz:Z0d Z0W s=0
 · have e1:((Z0d Z0W s:Int)==0)=true:=by simp[hz]
   repeat' ((conv=>whnf);first|refine stp ?_|with_reducible apply Z01<;>intro h)
   unfold Z1R;simp[hz]
 · have hdg:=Zdp (s:=s) (by omega) (by omega)
   have e0:F5 128 [.str (s.take (Z0d Z0W s)),.int .i64 10,.int .i64 64]=some (piR (Z2U (s.take (Z0d Z0W s)))):=by simp only[F5];rw[if_pos hdg]
   have hb:Z0m Y00 128=true:=by kernel_rfl
   have e1:((Z0d Z0W s:Int)==0)=false:=by simp[hz]
   obtain⟨c,hc⟩:∃c,s[0]? = some c:=by cases s with|nil=>simp[Z0d]at hz|cons c t=>exact⟨c,rfl⟩
   have hh:s.head? = some c:=by rw[<- hc];cases s<;>rfl
   have u0:=Z5F c 48 (by decide)
   have u2:∀n:Nat,decide ((n:Int)>1)=decide (1<n):=λn=>by simp;omega
   have hb2:Z0m Y00 139=true:=by kernel_rfl
   have e3:F5 139 [.str (s.take (Z0d Z0W s))]=some (.str (s.take (Z0d Z0W s))):=by simp only[F5];rw[if_pos (by rw[Y0k];omega)]
   by_cases hn:Z0d Z0W s<s.length
   · have e2:decide ((Z0d Z0W s:Int)<(s.length:Int))=true:=by simpa using hn
     have hx:s[Z0d Z0W s]? = some s[Z0d Z0W s]:=by simp[hn]
     have u1:=Z5F s[Z0d Z0W s] 95 (by decide)
     by_cases hv:Z2U (s.take (Z0d Z0W s))<9223372036854775808
     · rw[ZiB hv]at e0
       repeat' ((conv=>whnf);first|with_reducible refine ixS 0 rfl hc ?_|with_reducible refine ixS _ rfl hx ?_|with_reducible refine exI (Z1d hb rfl e0) ?_|with_reducible refine exI (Z1d hb2 rfl e3) ?_|refine stp ?_|with_reducible apply Z01<;>intro h)
       all_goals (first|(show AV.tuple _=AV.tuple _;clear e0 hdg;simp only[Z1R,hx,hh];simp only[u2]at *;simp_all;done)|(show AV.tuple _=AV.tuple _;have hg:¬(1<Z0d Z0W s):=(by intro hg;have hg':decide ((Z0d Z0W s:Int)>1)=true:=(by simp;omega);simp_all;done);clear e0 hdg u2;simp only[Z1R,hx,hh];simp_all;rw[if_neg (λhq=>by have:=hq.1;omega)];exact⟨rfl,rfl⟩))
     · rw[ZiC hv]at e0
       repeat' ((conv=>whnf);first|with_reducible refine ixS 0 rfl hc ?_|with_reducible refine ixS _ rfl hx ?_|with_reducible refine exI (Z1d hb rfl e0) ?_|with_reducible refine exI (Z1d hb2 rfl e3) ?_|refine stp ?_|with_reducible apply Z01<;>intro h)
       all_goals (first|(show AV.tuple _=AV.tuple _;clear e0 hdg;simp only[Z1R,hx,hh];simp only[u2]at *;simp_all;done)|(show AV.tuple _=AV.tuple _;have hg:¬(1<Z0d Z0W s):=(by intro hg;have hg':decide ((Z0d Z0W s:Int)>1)=true:=(by simp;omega);simp_all;done);clear e0 hdg u2;simp only[Z1R,hx,hh];simp_all;rw[if_neg (λhq=>by have:=hq.1;omega)];exact⟨rfl,rfl⟩))
   · have e2:decide ((Z0d Z0W s:Int)<(s.length:Int))=false:=by simpa using hn
     have hx:s[Z0d Z0W s]? = none:=by simp;omega
     by_cases hv:Z2U (s.take (Z0d Z0W s))<9223372036854775808
     · rw[ZiB hv]at e0
       repeat' ((conv=>whnf);first|with_reducible refine ixS 0 rfl hc ?_|with_reducible refine exI (Z1d hb rfl e0) ?_|with_reducible refine exI (Z1d hb2 rfl e3) ?_|refine stp ?_|with_reducible apply Z01<;>intro h)
       all_goals (first|(show AV.tuple _=AV.tuple _;clear e0 hdg;simp only[Z1R,hx,hh];simp only[u2]at *;simp_all;done)|(show AV.tuple _=AV.tuple _;have hg:¬(1<Z0d Z0W s):=(by intro hg;have hg':decide ((Z0d Z0W s:Int)>1)=true:=(by simp;omega);simp_all;done);clear e0 hdg u2;simp only[Z1R,hx,hh];simp_all;rw[if_neg (λhq=>by have:=hq.1;omega)];exact⟨rfl,rfl⟩))
     · rw[ZiC hv]at e0
       repeat' ((conv=>whnf);first|with_reducible refine ixS 0 rfl hc ?_|with_reducible refine exI (Z1d hb rfl e0) ?_|with_reducible refine exI (Z1d hb2 rfl e3) ?_|refine stp ?_|with_reducible apply Z01<;>intro h)
       all_goals (first|(show AV.tuple _=AV.tuple _;clear e0 hdg;simp only[Z1R,hx,hh];simp only[u2]at *;simp_all;done)|(show AV.tuple _=AV.tuple _;have hg:¬(1<Z0d Z0W s):=(by intro hg;have hg':decide ((Z0d Z0W s:Int)>1)=true:=(by simp;omega);simp_all;done);clear e0 hdg u2;simp only[Z1R,hx,hh];simp_all;rw[if_neg (λhq=>by have:=hq.1;omega)];exact⟨rfl,rfl⟩))
end
section
variable {gl:Z0k}
def F6(f:Nat)(xs:List AV):Option AV:=match f with
 |98=>match xs with|[.str s]=>if s.length<=9223372036854775807 then some (.int .i64 (skip false s)) else none|_=>none
 |116=>match xs with|[.str s]=>if s.length<=9223372036854775807 then some (.int .i64 (Z0j s)) else none|_=>none
 |117=>match xs with|[.str s]=>if s.length<=1099511627776 then some (.tuple [.int .i64 (Z1R s).1,.int .i64 (Z1R s).2]) else none|_=>none
 |118=>match xs with|[.str (c::s)]=>if (c::s).length<=9223372036854775807 then some (.int .i64 (Z0i (c::s))) else none|_=>none
 |f=>F3 f xs
theorem ZqT{f:Nat}{xs:List AV}{r:AV}(h:F6 f xs=some r):plain r=true/\ValOK Y00 runLives.gl f xs r:=by
 unfold F6 at h
 split at h<;>try (exact ZdS h)
 all_goals (split at h<;>try (cases h;done))
 all_goals (split at h<;>cases h)
 ·rename_i hs;exact⟨rfl,Zqq _ hs⟩
 ·rename_i hs;exact⟨rfl,ZdZ _ hs⟩
 ·rename_i hs;exact⟨rfl,Zq3 _ hs⟩
 ·rename_i hs;exact⟨rfl,ZnL _ hs (by simp)⟩
theorem ZmH:OrcSound Y00 runLives.gl (Z6v F6):=Z0J λf xs r h=>ZqT h
theorem Z2G{m:List Nat}:∀(n:Nat)(l:List (List UInt8)),EGe m (ZbP n l) (ZbP n l)
 |_,[]=>trivial
 |n,k::l=>⟨Y04 rfl,Y04 rfl,rfl,Z2G (n+1) l⟩
theorem Z4R{H:Z00}(x:List UInt8)(h:Zhb H (.map 1)=some (ZbP 0 keysL)):Z2T Y00 125 (.map 1) (.str x) true H=some (.tuple [.agg [],.bool (keysL.contains x)]):=by
 obtain⟨o,h1,h2,h3⟩:=ZeL x keysL 0 0
 have hz:Z4y Y00 142=some (.agg []):=by kernel_rfl
 simp only[Z2T,kdK,h,h1,<- h2]
 cases o with
 |none=>simp[hz]
 |some p=>have:=h3 p rfl;obtain⟨j,v⟩:=p;subst this;simp
theorem Z3r {s : List UInt8} {k n : Nat} {acc : List Tk} {kind len num : Nat} (hk : k < s.length) (h2 : s.length < k + n) (ht : Z4c (s.drop k) = some (kind, len, num)) (h3 : Z6D s = Z7q acc (Z9Y n k (s.drop k))) :
  Z6D s=Z7q (acc++[⟨kind,(s.drop k).take len,num,k⟩]) (Z9Y (n-1) (k+len+skip false (s.drop (k+len))) (s.drop (k+len+skip false (s.drop (k+len))))):=by
 obtain⟨n,rfl⟩:∃m,n=m+1:=⟨n-1,by omega⟩
 have hne:¬s.drop k=[]:=by intro e;have:=congrArg List.length e;simp at this;omega
 rw[h3,Z9Y,if_neg hne,ht]
 simp only[List.drop_drop,Nat.add_sub_cancel]
 rw[<- Nat.add_assoc,Zax]
theorem ZfU{s:List UInt8}{k n:Nat}{acc:List Tk}(hk:k<s.length)(h2:s.length<k+n)(ht:Z4c (s.drop k)=none)(h3:Z6D s=Z7q acc (Z9Y n k (s.drop k))):Z6D s = .inl k:=by
 obtain⟨n,rfl⟩:∃m,n=m+1:=⟨n-1,by omega⟩
 have hne:¬s.drop k=[]:=by intro e;have:=congrArg List.length e;simp at this;omega
 rw[h3,Z9Y,if_neg hne,ht];rfl
theorem Zo7{s:List UInt8}{k n:Nat}{acc:List Tk}(h1:k<=s.length)(hk:¬k<s.length)(h2:s.length<k+n)(h3:Z6D s=Z7q acc (Z9Y n k (s.drop k))):Z6D s = .inr acc:=by
 obtain⟨n,rfl⟩:∃m,n=m+1:=⟨n-1,by omega⟩
 have he:s.drop k=[]:=List.drop_eq_nil_of_le (by omega)
 rw[h3,Z9Y,if_pos he];simp[Z7q]
attribute [local irreducible] Z1R Z0j Z0i skip Z0d
theorem all_ok(s:List UInt8)(hs:s.length<=65536):ValOK Y00 runLives.gl 53 [.str s] (Zck s):=by
 have e0:decide ((s.length:Int)>65536)=false:=by simp;omega
 refine Z2f (λg=>Y03 g 98 || Y03 g 116 || Y03 g 117 || Y03 g 118) 2 follows Z05 ZmH Tryz.func53 rfl ?_
 repeat' ((conv=>whnf);first|refine stp ?_|with_reducible apply Z01<;>intro h)
 conv=>whnf
 refine⟨Nat×Nat×List Tk,(λp=>p.1<=s.length/\s.length<p.1+p.2.1/\Z6D s=Z7q p.2.2 (Z9Y p.2.1 p.1 (s.drop p.1))/\p.2.2.length<=p.1),(λp=>[(0,.str s),(3,.ptr 0 0),(4,.map 1),(5,match p.2.2 with|[]=>.nslice|_::_=>.slice 2 0 p.2.2.length p.2.2.length 4),(6,.int .i64 p.1)]),
  (λp=>⟨true,0,0,.cells [.int .i64 0,.int .i64 0] 29⟩::⟨true,1,0,Zrh⟩::match p.2.2 with|[]=>[]|_::_=>[⟨true,2,0,.cells (Zcg p.2.2) 38⟩]),(λp=>s.length-p.1),⟨(skip false s,s.length+1,[]),?_,?_⟩,?_⟩
 ·exact⟨Z4I _ _,by show s.length<skip false s+(s.length+1);omega,(Zd1 _).symm,Y05 _⟩
 · refine Y0b [0,1] rfl ?_ ?_ rfl
   ·exact⟨Y04 rfl,Y02 rfl rfl,Wk.map rfl,Y04 rfl,Y08 rfl,trivial⟩
   ·exact⟨hbp,⟨rfl,rfl,rfl,rfl,⟨rfl,Z2G 0 keysL⟩⟩,trivial⟩
 · rintro⟨k,n,acc⟩ ⟨h1,h2,h3,h4⟩
   dsimp only at h1 h2 h3 h4
   have w1:=Zfe (s.drop k)
   have w2:=ZiL (s.drop k)
   have w3:=Zfz (s.drop k)
   have w4:(s.drop k).length=s.length-k:=Y0y
   have g1:skip false (s.drop (k+Z0j (s.drop k)))<=s.length-(k+Z0j (s.drop k)):=by have:=Z4I false (s.drop (k+Z0j (s.drop k)));simpa using this
   have g2:skip false (s.drop (k+(Z1R (s.drop k)).1))<=s.length-(k+(Z1R (s.drop k)).1):=by have:=Z4I false (s.drop (k+(Z1R (s.drop k)).1));simpa using this
   have g3:skip false (s.drop (k+Z0i (s.drop k)))<=s.length-(k+Z0i (s.drop k)):=by have:=Z4I false (s.drop (k+Z0i (s.drop k)));simpa using this
   have hb:Z0m Y00 118=true:=by kernel_rfl
   have t1:(List.take (Z0j (s.drop k)) (s.drop k)).length=Z0j (s.drop k):=by rw[Y0k];omega
   have t2:(List.take (Z1R (s.drop k)).1 (s.drop k)).length=(Z1R (s.drop k)).1:=by rw[Y0k];omega
   have t3:(List.take (Z0i (s.drop k)) (s.drop k)).length=Z0i (s.drop k):=by rw[Y0k];omega
   by_cases hk:k<s.length
   · have e1:decide ((k:Int)<(s.length:Int))=true:=by simpa using hk
     obtain⟨c,t,hr⟩:∃c t,s.drop k=c::t:=by
      cases e:s.drop k with
      |nil=>rw[e]at w4;simp at w4;omega
      |cons c t=>exact⟨c,t,rfl⟩
     have e2:F6 118 [.str (s.drop k)]=some (.int .i64 (Z0i (s.drop k))):=by
      rw[hr]at w4⊢;simp only[F6];rw[if_pos (by omega)]
     cases acc with
     |nil =>
      dsimp only
      by_cases hw:0<Z0j (s.drop k)
      · have d1:decide ((Z0j (s.drop k):Int)>0)=true:=by simpa using hw
        cases hc:keysL.contains ((s.drop k).take (Z0j (s.drop k))) with
        |true =>
         clear w2 w3 t2 t3 e2
         repeat' ((conv=>whnf);first|(with_reducible refine exI (Z4R _ ?_) ?_;(focus rfl))|refine stp ?_|with_reducible apply Z01<;>intro h)
         conv=>whnf
         refine exI (Z4R _ ?_) ?_
         ·rfl
         rw[hc]
         repeat' ((conv=>whnf);(first|refine stp ?_|with_reducible apply Z01<;>intro h))
         conv=>whnf
         refine⟨(k+Z0j (s.drop k)+skip false (s.drop (k+Z0j (s.drop k))),n-1,[⟨2,(s.drop k).take (Z0j (s.drop k)),0,k⟩]),⟨?_,?_,?_,?_⟩,?_,Y0b [0,1,6] rfl ?_ ?_ rfl⟩
         ·show k+Z0j (s.drop k)+skip false (s.drop (k+Z0j (s.drop k)))<=s.length;omega
         ·show s.length<k+Z0j (s.drop k)+skip false (s.drop (k+Z0j (s.drop k)))+(n-1);omega
         ·exact Z3r (acc:=[]) hk h2 (by unfold Z4c;rw[if_pos hw,if_pos hc]) h3
         ·show 1<=k+Z0j (s.drop k)+skip false (s.drop (k+Z0j (s.drop k)));omega
         ·show s.length-(k+Z0j (s.drop k)+skip false (s.drop (k+Z0j (s.drop k))))<s.length-k;omega
         · refine⟨Y04 rfl,Y02 rfl rfl,Wk.map rfl,Y0f rfl rfl rfl ?_ ?_ rfl,Y08 ?_,trivial⟩
           ·exact Y01 _
           ·exact Y01 _
           ·rw[t1];exact ZaW (by omega)
         ·exact⟨hbp,⟨rfl,rfl,rfl,rfl,⟨rfl,Z2G 0 keysL⟩⟩,hbp,trivial⟩
        |false =>
         clear w2 w3 t2 t3 e2
         repeat' ((conv=>whnf);first|(with_reducible refine exI (Z4R _ ?_) ?_;(focus rfl))|refine stp ?_|with_reducible apply Z01<;>intro h)
         conv=>whnf
         refine exI (Z4R _ ?_) ?_
         ·rfl
         rw[hc]
         repeat' ((conv=>whnf);(first|refine stp ?_|with_reducible apply Z01<;>intro h))
         conv=>whnf
         refine⟨(k+Z0j (s.drop k)+skip false (s.drop (k+Z0j (s.drop k))),n-1,[⟨1,(s.drop k).take (Z0j (s.drop k)),0,k⟩]),⟨?_,?_,?_,?_⟩,?_,Y0b [0,1,6] rfl ?_ ?_ rfl⟩
         ·show k+Z0j (s.drop k)+skip false (s.drop (k+Z0j (s.drop k)))<=s.length;omega
         ·show s.length<k+Z0j (s.drop k)+skip false (s.drop (k+Z0j (s.drop k)))+(n-1);omega
         ·exact Z3r (acc:=[]) hk h2 (by unfold Z4c;rw[if_pos hw,if_neg (by rw[hc];decide)]) h3
         ·show 1<=k+Z0j (s.drop k)+skip false (s.drop (k+Z0j (s.drop k)));omega
         ·show s.length-(k+Z0j (s.drop k)+skip false (s.drop (k+Z0j (s.drop k))))<s.length-k;omega
         · refine⟨Y04 rfl,Y02 rfl rfl,Wk.map rfl,Y0f rfl rfl rfl ?_ ?_ rfl,Y08 ?_,trivial⟩
           ·exact Y01 _
           ·exact Y01 _
           ·rw[t1];exact ZaW (by omega)
         ·exact⟨hbp,⟨rfl,rfl,rfl,rfl,⟨rfl,Z2G 0 keysL⟩⟩,hbp,trivial⟩
      · have d1:decide ((Z0j (s.drop k):Int)>0)=false:=by simpa using hw
        by_cases hn:0<(Z1R (s.drop k)).1
        · have d2:decide (((Z1R (s.drop k)).1:Int)>0)=true:=by simpa using hn
          clear w1 w3 t1 t3 e2
          repeat' ((conv=>whnf);(first|refine stp ?_|with_reducible apply Z01<;>intro h))
          conv=>whnf
          refine⟨(k+(Z1R (s.drop k)).1+skip false (s.drop (k+(Z1R (s.drop k)).1)),n-1,[⟨3,(s.drop k).take ((Z1R (s.drop k)).1),(Z1R (s.drop k)).2,k⟩]),⟨?_,?_,?_,?_⟩,?_,Y0b [0,1,5] rfl ?_ ?_ rfl⟩
          ·show k+(Z1R (s.drop k)).1+skip false (s.drop (k+(Z1R (s.drop k)).1))<=s.length;omega
          ·show s.length<k+(Z1R (s.drop k)).1+skip false (s.drop (k+(Z1R (s.drop k)).1))+(n-1);omega
          ·exact Z3r (acc:=[]) hk h2 (by unfold Z4c;rw[if_neg hw,if_pos hn]) h3
          ·show 1<=k+(Z1R (s.drop k)).1+skip false (s.drop (k+(Z1R (s.drop k)).1));omega
          ·show s.length-(k+(Z1R (s.drop k)).1+skip false (s.drop (k+(Z1R (s.drop k)).1)))<s.length-k;omega
          · refine⟨Y04 rfl,Y02 rfl rfl,Wk.map rfl,Y0f rfl rfl rfl ?_ ?_ rfl,Y08 ?_,trivial⟩
            ·exact Y01 _
            ·exact Y01 _
            ·rw[t2];exact ZaW (by omega)
          ·exact⟨hbp,⟨rfl,rfl,rfl,rfl,⟨rfl,Z2G 0 keysL⟩⟩,hbp,trivial⟩
        · have d2:decide (((Z1R (s.drop k)).1:Int)>0)=false:=by simpa using hn
          by_cases hg:0<Z0i (s.drop k)
          · have d3:decide ((Z0i (s.drop k):Int)>0)=true:=by simpa using hg
            clear w1 w2 t1 t2
            repeat' ((conv=>whnf);first|with_reducible refine exI (Z1d hb rfl e2) ?_|refine stp ?_|with_reducible apply Z01<;>intro h)
            conv=>whnf
            refine⟨(k+Z0i (s.drop k)+skip false (s.drop (k+Z0i (s.drop k))),n-1,[⟨4,(s.drop k).take (Z0i (s.drop k)),0,k⟩]),⟨?_,?_,?_,?_⟩,?_,Y0b [0,1,5] rfl ?_ ?_ rfl⟩
            ·show k+Z0i (s.drop k)+skip false (s.drop (k+Z0i (s.drop k)))<=s.length;omega
            ·show s.length<k+Z0i (s.drop k)+skip false (s.drop (k+Z0i (s.drop k)))+(n-1);omega
            ·exact Z3r (acc:=[]) hk h2 (by unfold Z4c;rw[if_neg hw,if_neg hn,if_pos hg]) h3
            ·show 1<=k+Z0i (s.drop k)+skip false (s.drop (k+Z0i (s.drop k)));omega
            ·show s.length-(k+Z0i (s.drop k)+skip false (s.drop (k+Z0i (s.drop k))))<s.length-k;omega
            · refine⟨Y04 rfl,Y02 rfl rfl,Wk.map rfl,Y0f rfl rfl rfl ?_ ?_ rfl,Y08 ?_,trivial⟩
              ·exact Y01 _
              ·exact Y01 _
              ·rw[t3];exact ZaW (by omega)
            ·exact⟨hbp,⟨rfl,rfl,rfl,rfl,⟨rfl,Z2G 0 keysL⟩⟩,hbp,trivial⟩
          · have d3:decide ((Z0i (s.drop k):Int)>0)=false:=by simpa using hg
            clear w1 w2 t1 t2 g1 g2 g3
            repeat' ((conv=>whnf);first|with_reducible refine exI (Z1d hb rfl e2) ?_|refine stp ?_|with_reducible apply Z01<;>intro h)
            have e9:=ZfU hk h2 (by unfold Z4c;rw[if_neg hw,if_neg hn,if_neg hg]) h3
            unfold Zck;rw[if_neg (by omega),e9]
     |cons a acc =>
      dsimp only
      by_cases hw:0<Z0j (s.drop k)
      · have d1:decide ((Z0j (s.drop k):Int)>0)=true:=by simpa using hw
        cases hc:keysL.contains ((s.drop k).take (Z0j (s.drop k))) with
        |true =>
         clear w2 w3 t2 t3 e2
         repeat' ((conv=>whnf);first|(with_reducible refine exI (Z4R _ ?_) ?_;(focus rfl))|refine stp ?_|with_reducible apply Z01<;>intro h)
         conv=>whnf
         refine exI (Z4R _ ?_) ?_
         ·rfl
         rw[hc]
         repeat' ((conv=>whnf);(first|refine stp ?_|with_reducible apply Z01<;>intro h))
         conv=>whnf
         refine exI (Z6T aT (xs:=[.int .i64 2,.str ((s.drop k).take (Z0j (s.drop k))),.int .i64 0,.int .i64 k]) rfl rfl rfl (Z1W _) rfl (by decide) ⟨by simp at h4⊢;omega,by simp at h4⊢;omega⟩) ?_
         repeat' ((conv=>whnf);(first|refine stp ?_|with_reducible apply Z01<;>intro h))
         conv=>whnf
         refine⟨(k+Z0j (s.drop k)+skip false (s.drop (k+Z0j (s.drop k))),n-1,(a::acc)++[⟨2,(s.drop k).take (Z0j (s.drop k)),0,k⟩]),⟨?_,?_,?_,?_⟩,?_,Y0b [0,1,7] rfl ?_ ?_ rfl⟩
         ·show k+Z0j (s.drop k)+skip false (s.drop (k+Z0j (s.drop k)))<=s.length;omega
         ·show s.length<k+Z0j (s.drop k)+skip false (s.drop (k+Z0j (s.drop k)))+(n-1);omega
         ·exact Z3r hk h2 (by unfold Z4c;rw[if_pos hw,if_pos hc]) h3
         ·show ((a::acc)++[_]).length<=k+Z0j (s.drop k)+skip false (s.drop (k+Z0j (s.drop k)));rw[Y0l];simp only[Y09,Y0g]at h4⊢;omega
         ·show s.length-(k+Z0j (s.drop k)+skip false (s.drop (k+Z0j (s.drop k))))<s.length-k;omega
         · refine⟨Y04 rfl,Y02 rfl rfl,Wk.map rfl,Y0f rfl rfl ?_ ?_ ?_ rfl,Y08 ?_,trivial⟩
           ·exact (Z1b (a::acc) _).symm
           ·exact Y01 _
           ·exact Y0s (Z1b (a::acc) _)
           ·rw[t1];exact ZaW (by omega)
         ·exact⟨hbp,⟨rfl,rfl,rfl,rfl,⟨rfl,Z2G 0 keysL⟩⟩,⟨rfl,rfl,rfl,rfl,Y0e (rest:=[]) ((Z0I (a::acc) ⟨2,(s.drop k).take (Z0j (s.drop k)),0,k⟩).symm.trans (Y0c _).symm) (Z1g _)⟩,trivial⟩
        |false =>
         clear w2 w3 t2 t3 e2
         repeat' ((conv=>whnf);first|(with_reducible refine exI (Z4R _ ?_) ?_;(focus rfl))|refine stp ?_|with_reducible apply Z01<;>intro h)
         conv=>whnf
         refine exI (Z4R _ ?_) ?_
         ·rfl
         rw[hc]
         repeat' ((conv=>whnf);(first|refine stp ?_|with_reducible apply Z01<;>intro h))
         conv=>whnf
         refine exI (Z6T aT (xs:=[.int .i64 1,.str ((s.drop k).take (Z0j (s.drop k))),.int .i64 0,.int .i64 k]) rfl rfl rfl (Z1W _) rfl (by decide) ⟨by simp at h4⊢;omega,by simp at h4⊢;omega⟩) ?_
         repeat' ((conv=>whnf);(first|refine stp ?_|with_reducible apply Z01<;>intro h))
         conv=>whnf
         refine⟨(k+Z0j (s.drop k)+skip false (s.drop (k+Z0j (s.drop k))),n-1,(a::acc)++[⟨1,(s.drop k).take (Z0j (s.drop k)),0,k⟩]),⟨?_,?_,?_,?_⟩,?_,Y0b [0,1,7] rfl ?_ ?_ rfl⟩
         ·show k+Z0j (s.drop k)+skip false (s.drop (k+Z0j (s.drop k)))<=s.length;omega
         ·show s.length<k+Z0j (s.drop k)+skip false (s.drop (k+Z0j (s.drop k)))+(n-1);omega
         ·exact Z3r hk h2 (by unfold Z4c;rw[if_pos hw,if_neg (by rw[hc];decide)]) h3
         ·show ((a::acc)++[_]).length<=k+Z0j (s.drop k)+skip false (s.drop (k+Z0j (s.drop k)));rw[Y0l];simp only[Y09,Y0g]at h4⊢;omega
         ·show s.length-(k+Z0j (s.drop k)+skip false (s.drop (k+Z0j (s.drop k))))<s.length-k;omega
         · refine⟨Y04 rfl,Y02 rfl rfl,Wk.map rfl,Y0f rfl rfl ?_ ?_ ?_ rfl,Y08 ?_,trivial⟩
           ·exact (Z1b (a::acc) _).symm
           ·exact Y01 _
           ·exact Y0s (Z1b (a::acc) _)
           ·rw[t1];exact ZaW (by omega)
         ·exact⟨hbp,⟨rfl,rfl,rfl,rfl,⟨rfl,Z2G 0 keysL⟩⟩,⟨rfl,rfl,rfl,rfl,Y0e (rest:=[]) ((Z0I (a::acc) ⟨1,(s.drop k).take (Z0j (s.drop k)),0,k⟩).symm.trans (Y0c _).symm) (Z1g _)⟩,trivial⟩
      · have d1:decide ((Z0j (s.drop k):Int)>0)=false:=by simpa using hw
        by_cases hn:0<(Z1R (s.drop k)).1
        · have d2:decide (((Z1R (s.drop k)).1:Int)>0)=true:=by simpa using hn
          clear w1 w3 t1 t3 e2
          repeat' ((conv=>whnf);(first|refine stp ?_|with_reducible apply Z01<;>intro h))
          conv=>whnf
          refine exI (Z6T aT (xs:=[.int .i64 3,.str ((s.drop k).take ((Z1R (s.drop k)).1)),.int .i64 ((Z1R (s.drop k)).2:Nat),.int .i64 k]) rfl rfl rfl (Z1W _) rfl (by decide) ⟨by simp at h4⊢;omega,by simp at h4⊢;omega⟩) ?_
          repeat' ((conv=>whnf);(first|refine stp ?_|with_reducible apply Z01<;>intro h))
          conv=>whnf
          refine⟨(k+(Z1R (s.drop k)).1+skip false (s.drop (k+(Z1R (s.drop k)).1)),n-1,(a::acc)++[⟨3,(s.drop k).take ((Z1R (s.drop k)).1),(Z1R (s.drop k)).2,k⟩]),⟨?_,?_,?_,?_⟩,?_,Y0b [0,1,6] rfl ?_ ?_ rfl⟩
          ·show k+(Z1R (s.drop k)).1+skip false (s.drop (k+(Z1R (s.drop k)).1))<=s.length;omega
          ·show s.length<k+(Z1R (s.drop k)).1+skip false (s.drop (k+(Z1R (s.drop k)).1))+(n-1);omega
          ·exact Z3r hk h2 (by unfold Z4c;rw[if_neg hw,if_pos hn]) h3
          ·show ((a::acc)++[_]).length<=k+(Z1R (s.drop k)).1+skip false (s.drop (k+(Z1R (s.drop k)).1));rw[Y0l];simp only[Y09,Y0g]at h4⊢;omega
          ·show s.length-(k+(Z1R (s.drop k)).1+skip false (s.drop (k+(Z1R (s.drop k)).1)))<s.length-k;omega
          · refine⟨Y04 rfl,Y02 rfl rfl,Wk.map rfl,Y0f rfl rfl ?_ ?_ ?_ rfl,Y08 ?_,trivial⟩
            ·exact (Z1b (a::acc) _).symm
            ·exact Y01 _
            ·exact Y0s (Z1b (a::acc) _)
            ·rw[t2];exact ZaW (by omega)
          ·exact⟨hbp,⟨rfl,rfl,rfl,rfl,⟨rfl,Z2G 0 keysL⟩⟩,⟨rfl,rfl,rfl,rfl,Y0e (rest:=[]) ((Z0I (a::acc) ⟨3,(s.drop k).take ((Z1R (s.drop k)).1),(Z1R (s.drop k)).2,k⟩).symm.trans (Y0c _).symm) (Z1g _)⟩,trivial⟩
        · have d2:decide (((Z1R (s.drop k)).1:Int)>0)=false:=by simpa using hn
          by_cases hg:0<Z0i (s.drop k)
          · have d3:decide ((Z0i (s.drop k):Int)>0)=true:=by simpa using hg
            clear w1 w2 t1 t2
            repeat' ((conv=>whnf);first|with_reducible refine exI (Z1d hb rfl e2) ?_|refine stp ?_|with_reducible apply Z01<;>intro h)
            conv=>whnf
            refine exI (Z6T aT (xs:=[.int .i64 4,.str ((s.drop k).take (Z0i (s.drop k))),.int .i64 0,.int .i64 k]) rfl rfl rfl (Z1W _) rfl (by decide) ⟨by simp at h4⊢;omega,by simp at h4⊢;omega⟩) ?_
            repeat' ((conv=>whnf);(first|refine stp ?_|with_reducible apply Z01<;>intro h))
            conv=>whnf
            refine⟨(k+Z0i (s.drop k)+skip false (s.drop (k+Z0i (s.drop k))),n-1,(a::acc)++[⟨4,(s.drop k).take (Z0i (s.drop k)),0,k⟩]),⟨?_,?_,?_,?_⟩,?_,Y0b [0,1,6] rfl ?_ ?_ rfl⟩
            ·show k+Z0i (s.drop k)+skip false (s.drop (k+Z0i (s.drop k)))<=s.length;omega
            ·show s.length<k+Z0i (s.drop k)+skip false (s.drop (k+Z0i (s.drop k)))+(n-1);omega
            ·exact Z3r hk h2 (by unfold Z4c;rw[if_neg hw,if_neg hn,if_pos hg]) h3
            ·show ((a::acc)++[_]).length<=k+Z0i (s.drop k)+skip false (s.drop (k+Z0i (s.drop k)));rw[Y0l];simp only[Y09,Y0g]at h4⊢;omega
            ·show s.length-(k+Z0i (s.drop k)+skip false (s.drop (k+Z0i (s.drop k))))<s.length-k;omega
            · refine⟨Y04 rfl,Y02 rfl rfl,Wk.map rfl,Y0f rfl rfl ?_ ?_ ?_ rfl,Y08 ?_,trivial⟩
              ·exact (Z1b (a::acc) _).symm
              ·exact Y01 _
              ·exact Y0s (Z1b (a::acc) _)
              ·rw[t3];exact ZaW (by omega)
            ·exact⟨hbp,⟨rfl,rfl,rfl,rfl,⟨rfl,Z2G 0 keysL⟩⟩,⟨rfl,rfl,rfl,rfl,Y0e (rest:=[]) ((Z0I (a::acc) ⟨4,(s.drop k).take (Z0i (s.drop k)),0,k⟩).symm.trans (Y0c _).symm) (Z1g _)⟩,trivial⟩
          · have d3:decide ((Z0i (s.drop k):Int)>0)=false:=by simpa using hg
            clear w1 w2 t1 t2 g1 g2 g3
            repeat' ((conv=>whnf);first|with_reducible refine exI (Z1d hb rfl e2) ?_|refine stp ?_|with_reducible apply Z01<;>intro h)
            have e9:=ZfU hk h2 (by unfold Z4c;rw[if_neg hw,if_neg hn,if_neg hg]) h3
            unfold Zck;rw[if_neg (by omega),e9]
   · have e1:decide ((k:Int)<(s.length:Int))=false:=by simpa using hk
     have e9:=Zo7 h1 hk h2 h3
     clear g1 g2 g3 w1 w2 w3 w4 t1 t2 t3
     cases acc with
     |nil =>
      dsimp only
      repeat' ((conv=>whnf);first|refine stp ?_|with_reducible apply Z01<;>intro h)
      unfold Zck;rw[if_neg (by omega),e9];rfl
     |cons a acc =>
      dsimp only
      repeat' ((conv=>whnf);(first|refine stp ?_|with_reducible apply Z01<;>intro h))
      conv=>whnf
      refine exI (Z6T aT (xs:=[.int .i64 5,.str [],.int .i64 0,.int .i64 s.length]) rfl rfl rfl (Z1W _) rfl (by decide) ⟨by simp at h4⊢;omega,by simp at h4⊢;omega⟩) ?_
      repeat' ((conv=>whnf);(first|refine stp ?_|with_reducible apply Z01<;>intro h))
      conv=>whnf
      refine⟨.tuple [.rs (acc.length+1+1) 4 (Zcg (a::acc)++Tk.cells ⟨5,[],0,s.length⟩),.agg [.int .i64 0,.int .i64 0]],Z7s (Zda (b:=4) rfl ?_ ?_) (Z5y rfl),?_⟩
      ·exact (congrArg List.length (Z0I (a::acc) ⟨5,[],0,s.length⟩)).symm.trans ((Z1W _).trans (by simp))
      ·exact (congrArg (List.all · lit) (Z0I (a::acc) ⟨5,[],0,s.length⟩)).symm.trans (Zb8 _)
      · show _=Zck s
        unfold Zck;rw[if_neg (by omega),e9,<- Z0I];rfl
end
end Go.Proofs.YtneoiadnbikciaaGreatDoor.lex.pg
namespace Go.Proofs.YtneoiadnbikciaaGreatDoor.lex
open Go.Abs Go.RowKit
section
def Tk.q(t:Tk):Tq:=⟨(t.kind:Nat),t.text,(t.num:Nat),(t.pos:Nat)⟩
theorem ZhV:∀l:List Tk,tqC (l.map Tk.q)=Zcg l
 |[]=>rfl
 |t::l=>by simp only[List.map_cons,tqC,Zcg,ZhV l];rfl
def Z72(l:List Tk)(n:Nat):List Tq:=(l++[(⟨5,[],0,n⟩:Tk)]).map Tk.q
theorem Zb6(l:List Tk)(n:Nat):(Z72 l n).length=l.length+1:=by unfold Z72;simp
theorem Zbw:∀(n pos:Nat)(s:List UInt8)(l:List Tk),Z9Y n pos s = .inr l->l.length<=n
 |0,pos,s,l,h=>by cases h;exact Y01 _
 |n+1,pos,s,l,h=>by
  unfold Z9Y at h
  split at h
  ·cases h;exact Y05 _
  · split at h
    ·cases h
    · split at h
      ·cases h
      · rename_i l2 h2
        cases h
        have:=Zbw n _ _ _ h2
        simp;omega
def s0:Ps:=⟨0,0,0,0⟩
theorem Zcv{s:List UInt8}{l:List Tk}(h:Z6D s = .inr l)(hs:s.length<=65536):PsOK (Z72 l s.length) s0:=by
 have h1:=Zbw _ _ _ _ h
 have h2:=Zb6 l s.length
 refine⟨by show 0<_;omega,by omega,λi hi hk=>?_,by show -((0:Nat):Int)<=0;decide,by show (0:Int)<=200;decide⟩
 by_cases h3:i<l.length
 ·omega
 · exfalso
   have h4:i=l.length:=by omega
   subst h4
   apply hk
   simp[Z72,Tk.q]
theorem ZhX{s:List UInt8}{l:List Tk}(h:Z6D s = .inr l)(hs:s.length<=65536):Zck s = .tuple [.rs (Z72 l s.length).length 4 (tqC (Z72 l s.length)),.agg [.int .i64 0,.int .i64 0]]:=by
 unfold Zck
 rw[if_neg (by omega),h,Zb6]
 unfold Z72
 rw[ZhV]
end
section
theorem Zoa:(keysL.all kyB)=true:=by decide
theorem ZnM{s:List UInt8}(h:0<Z0i s):kyB (s.take (Z0i s))=false/\s.take (Z0i s)≠[]:=by
 match s with
 |[]=>exact absurd h (by simp[Z0i])
 |[c] =>
  have e:Z0i [c]=if ([124,38,61,33,60,43,45,42,94,40,41,123,125,44,59]:List UInt8).contains c then 1 else 0:=rfl
  rw[e]at h⊢
  split at h
  · rename_i hc
    rw[if_pos hc]
    refine⟨?_,by simp⟩
    have:∀c∈([124,38,61,33,60,43,45,42,94,40,41,123,125,44,59]:List UInt8),kyB [c]=false:=by decide
    exact this c (by simpa using hc)
  ·omega
 |c::d::t =>
  have k1:∀c∈([124,38,61,33,60,43,45,42,94,40,41,123,125,44,59]:List UInt8),(decide (97<=c)&&decide (c<=122))=false:=by decide
  have hc:0<Z0i (c::d::t)->c∈([124,38,61,33,60,43,45,42,94,40,41,123,125,44,59]:List UInt8):=by
   intro h
   have e:Z0i (c::d::t)=if (d=c/\(c=124\/c=38\/c=61))\/(d=61/\(c=33\/c=60)) then 2 else if ([124,38,61,33,60,43,45,42,94,40,41,123,125,44,59]:List UInt8).contains c then 1 else 0:=rfl
   rw[e]at h
   split at h
   · rename_i hc
     rcases hc with ⟨-,hc|hc|hc⟩|⟨-,hc|hc⟩<;>subst hc<;>decide
   · split at h
     ·rename_i hc;simpa using hc
     ·omega
  have h2:=k1 c (hc h)
  obtain⟨n,hn⟩:∃n,Z0i (c::d::t)=n+1:=⟨Z0i (c::d::t)-1,by omega⟩
  rw[hn]
  exact⟨h2,by simp⟩
theorem Znz{s:List UInt8}{kd len num:Nat}(h:Z4c s=some (kd,len,num)):(kd=4->kyB (s.take len)=false/\s.take len≠[])/\(kd=2->kyB (s.take len)=true):=by
 unfold Z4c at h
 split at h
 · cases h
   refine⟨λe=>?_,λe=>?_⟩
   ·exfalso;split at e<;>omega
   · split at e
     · rename_i hk
       exact List.all_eq_true.1 Zoa _ (Y0z.1 hk)
     ·omega
 · split at h
   · cases h
     exact⟨λe=>by omega,λe=>by omega⟩
   · split at h
     · rename_i hk
       cases h
       exact⟨λ_=>ZnM hk,λe=>by omega⟩
     ·cases h
theorem ZiV:∀(n pos:Nat)(s:List UInt8)(l:List Tk),Z9Y n pos s = .inr l->∀t∈l,(t.kind=4->kyB t.text=false/\t.text≠[])/\(t.kind=2->kyB t.text=true)
 |0,pos,s,l,h=>by cases h;intro t ht;cases ht
 |n+1,pos,s,l,h=>by
  unfold Z9Y at h
  split at h
  ·cases h;intro t ht;cases ht
  · split at h
    ·cases h
    · rename_i kd len num hk
      split at h
      ·cases h
      · rename_i l2 h2
        cases h
        intro t ht
        cases ht with
        |head=>exact Znz hk
        |tail _ ht=>exact ZiV n _ _ _ h2 t ht
theorem ZmK{s:List UInt8}{l:List Tk}(h:Z6D s = .inr l)(n:Nat):TqOK (Z72 l n):=by
 have h1:=ZiV _ _ _ _ h
 have h2:∀t∈l++[(⟨5,[],0,n⟩:Tk)],(t.kind=4->kyB t.text=false/\t.text≠[])/\(t.kind=2->kyB t.text=true):=by
  intro t ht
  rcases Y0t.1 ht with ht|ht
  ·exact h1 t ht
  ·have e:=Y0u.1 ht;rw[e];exact⟨λe=>absurd e (show ¬(5:Nat)=4 by decide),λe=>absurd e (show ¬(5:Nat)=2 by decide)⟩
 have h3:∀i (h:i<(Z72 l n).length),∃t∈l++[(⟨5,[],0,n⟩:Tk)],(Z72 l n)[i]=t.q:=by
  intro i h
  unfold Z72 at h⊢
  refine⟨(l++[(⟨5,[],0,n⟩:Tk)])[i]'(by simpa using h),List.getElem_mem _,List.getElem_map ..⟩
 refine⟨λi h hk=>?_,λi h hk=>?_⟩
 · obtain⟨t,ht,e⟩:=h3 i h
   rw[e]at hk⊢
   exact (h2 t ht).1 (by have:((t.kind:Nat):Int)=4:=hk;omega)
 · obtain⟨t,ht,e⟩:=h3 i h
   rw[e]at hk⊢
   exact (h2 t ht).2 (by have:((t.kind:Nat):Int)=2:=hk;omega)
end
section
variable {gl:Z0k}
def Zbc(s:List UInt8)(n:Nat):Bool:=match s[n]? with|some c=>Z4S c.toNat || c==95|none=>false
theorem Z9f(s:List UInt8):Z1R s=if Z0d Z0W s=0\/(1<Z0d Z0W s/\s.head? = some 48)\/Zbc s (Z0d Z0W s)=true\/¬Z2U (s.take (Z0d Z0W s))<9223372036854775808 then (0,0) else (Z0d Z0W s,Z2U (s.take (Z0d Z0W s))):=rfl
end
section
variable {gl:Z0k}
theorem Zb7{t:List UInt8}{kd len num:Nat}(h:Z4c t=some (kd,len,num)):0<len/\len<=t.length:=by
 unfold Z4c at h
 split at h
 ·cases h;rename_i h0;exact⟨h0,Zfe _⟩
 · split at h
   ·cases h;rename_i h0;exact⟨h0,ZiL _⟩
   · split at h
     ·cases h;rename_i h0;exact⟨h0,Zfz _⟩
     ·cases h
attribute [local irreducible] Z1R Z0j Z0i skip Z0d
end
section
theorem Z7b{p:Int->Bool}:∀(u:List UInt8),Z0d p (u.take (Z0d p u))=Z0d p u
 |[]=>rfl
 |c::u=>by
  cases hc:p c.toNat with
  |true=>rw[Z1i _ hc,Y0h,Z1i _ hc,Z7b u]
  |false=>rw[Z1r _ hc];rfl
theorem ZnA{u:List UInt8}{n:Nat}(h:0<n)(hn:n<=u.length):∃c v,u.take n=c::v/\∃w,u=c::w:=by
 cases u with
 |nil=>simp at hn;omega
 |cons c u=>cases n with|zero=>omega|succ n=>exact⟨c,u.take n,rfl,u,rfl⟩
theorem Zsh(n:Int):Z4S n=true->Z0W n=false:=by
 intro h
 simp only[Z4S,Z0W,Y0A,Y07,decide_eq_true_eq,Y0B,decide_eq_false_iff_not]at *;omega
theorem ZsF{c:UInt8}(h:Z0W c.toNat=true)(t:List UInt8):Z0i (c::t)=0:=by
 have hc:48<=c.toNat/\c.toNat<=57:=by simp[Z0W]at h;omega
 have ne:∀d:UInt8,(d.toNat<48\/57<d.toNat)->c≠d:=λd hd e=>by subst e;omega
 have hm:[124,38,61,33,60,43,45,42,94,40,41,123,125,44,59].contains c=false:=by
  rw[Bool.eq_false_iff]
  intro hc
  rw[Y0z]at hc
  simp only[Y0n,Y0v,or_false]at hc
  rcases hc with h|h|h|h|h|h|h|h|h|h|h|h|h|h|h<;>exact ne _ (by decide) h
 match t with
 |[]=>simp only[Z0i];rw[hm];rfl
 |d::t =>
  simp only[Z0i]
  rw[if_neg (by
   rintro (⟨_,h|h|h⟩|⟨_,h|h⟩)<;>exact ne _ (by decide) h),hm];rfl
theorem Z91{c:UInt8}{t:List UInt8}(h:0<Z0i (c::t)):[124,38,61,33,60,43,45,42,94,40,41,123,125,44,59].contains c=true:=by
 match t with
 |[]=>simp only[Z0i]at h;split at h;assumption;omega
 |d::t =>
  simp only[Z0i]at h
  split at h
  · rename_i h1
    rcases h1 with ⟨_,rfl|rfl|rfl⟩|⟨_,rfl|rfl⟩<;>decide
  ·split at h;assumption;omega
theorem Zil{u:List UInt8}(h:0<Z0i u):Z0i (u.take (Z0i u))=Z0i u:=by
 match u with
 |[]=>simp[Z0i]at h
 |[c] =>
  have hc:=Z91 h
  have e:Z0i [c]=1:=by simp only[Z0i];rw[if_pos hc]
  rw[e];exact e
 |c::d::t =>
  by_cases h1:(d=c/\(c=124\/c=38\/c=61))\/(d=61/\(c=33\/c=60))
  · have e:Z0i (c::d::t)=2:=by simp only[Z0i];rw[if_pos h1]
    rw[e];show Z0i [c,d]=2;simp only[Z0i];rw[if_pos h1]
  · have hc:=Z91 h
    have e:Z0i (c::d::t)=1:=by simp only[Z0i];rw[if_neg h1,if_pos hc]
    rw[e];show Z0i [c]=1;simp only[Z0i];rw[if_pos hc]
theorem ZcS{c:UInt8}{t:List UInt8}(h:Z0W c.toNat=false):(Z1R (c::t)).1=0:=by
 rw[Z9f,if_pos];exact .inl (Z1r _ h)
theorem ZlA{c:UInt8}{t:List UInt8}(h:0<(Z1R (c::t)).1):Z0W c.toNat=true:=by
 cases hd:Z0W c.toNat with
 |true=>rfl
 |false=>rw[ZcS hd]at h;omega
theorem ZhY{u:List UInt8}{kd len num:Nat}(h:Z4c u=some (kd,len,num)):Z4c (u.take len)=some (kd,len,num)/\∃c v,u.take len=c::v/\Z4l c.toNat=false/\c≠47:=by
 have hl:=Zb7 h
 obtain⟨c,v,e1,w,rfl⟩:=ZnA hl.1 hl.2
 unfold Z4c at h
 split at h
 · rename_i hw
   cases h
   have hlet:Z4S c.toNat=true:=by
    simp only[Z0j]at hw;split at hw;assumption;omega
   have hwn:Z0j (c::w)=Z0d Z4s (c::w):=by simp only[Z0j];rw[if_pos hlet]
   have e2:Z0j ((c::w).take (Z0j (c::w)))=Z0j (c::w):=by
    rw[e1];simp only[Z0j];rw[if_pos hlet,<- e1,hwn,Z7b];simp only[hlet,if_true]
   refine⟨?_,c,v,e1,?_,?_⟩
   ·unfold Z4c;rw[e2,if_pos hw,List.take_take,Nat.min_self]
   ·simp only[Z4S,Z4l,Y0A,Y07,decide_eq_true_eq,Bool.or_eq_false_iff,beq_eq_false_iff_ne]at *;omega
   ·rintro rfl;revert hlet;decide
 · rename_i hw
   split at h
   · rename_i hn
     cases h
     have hd:=ZlA hn
     have hnl:Z4S c.toNat=false:=by cases e:Z4S c.toNat with|false=>rfl|true=>have:=Zsh _ e;rw[hd]at this;cases this
     have e0:Z1R (c::w)=(Z0d Z0W (c::w),Z2U ((c::w).take (Z0d Z0W (c::w)))):=by
      rw[Z9f]at hn⊢;split at hn;simp at hn;rename_i hq;rw[if_neg hq]
     have hq:¬(Z0d Z0W (c::w)=0\/(1<Z0d Z0W (c::w)/\(c::w).head? = some 48)\/Zbc (c::w) (Z0d Z0W (c::w))=true\/¬Z2U ((c::w).take (Z0d Z0W (c::w)))<9223372036854775808):=by
      intro hq;rw[Z9f,if_pos hq]at hn;simp at hn
     rw[e0]at hn e1 hl⊢
     simp only at hn e1 hl⊢
     generalize hm:Z0d Z0W (c::w)=m at *
     have hlen:((c::w).take m).length=m:=by rw[Y0k];omega
     have hsp:Z0d Z0W ((c::w).take m)=m:=by rw[<- hm];exact Z7b _
     have e2:Z1R ((c::w).take m)=(m,Z2U ((c::w).take m)):=by
      rw[Z9f,hsp,if_neg,List.take_take,Nat.min_self]
      rintro (h|h|h|h)
      ·omega
      ·refine hq (.inr (.inl ⟨h.1,?_⟩));rw[e1]at h;exact h.2
      ·unfold Zbc at h;rw[Y0C (by omega)]at h;cases h
      ·rw[List.take_take,Nat.min_self]at h;exact hq (.inr (.inr (.inr h)))
     refine⟨?_,c,v,e1,?_,?_⟩
     · unfold Z4c
       rw[if_neg (by rw[e1];simp only[Z0j,hnl];simp),e2,if_pos hn]
     ·simp only[Z0W,Z4l,Y07,decide_eq_true_eq,Bool.or_eq_false_iff,beq_eq_false_iff_ne]at *;omega
     ·rintro rfl;revert hd;decide
   · rename_i hn
     split at h
     · rename_i hs
       cases h
       have hc:=Z91 hs
       have hnd:Z0W c.toNat=false:=by
        cases e:Z0W c.toNat with
        |false=>rfl
        |true=>have:=ZsF e w;omega
       have hnl:Z4S c.toNat=false:=by
        cases e:Z4S c.toNat with
        |false=>rfl
        |true =>
         exfalso
         have:0<Z0j (c::w):=by simp only[Z0j];rw[if_pos e,Z1i _ (by simp[Z4s,e])];omega
         exact hw this
       refine⟨?_,c,v,e1,?_,?_⟩
       · unfold Z4c
         rw[if_neg (by rw[e1];simp only[Z0j,hnl];simp),if_neg (by rw[e1,ZcS hnd];omega),Zil hs,if_pos hs]
       · rw[Y0z]at hc
         simp only[Y0n,Y0v,or_false]at hc
         rcases hc with h|h|h|h|h|h|h|h|h|h|h|h|h|h|h<;>(subst h;decide)
       ·rintro rfl;revert hc;decide
     ·cases h
def Zs3(t:Tk):Prop:=Z4c t.text=some (t.kind,t.text.length,t.num)/\∃c v,t.text=c::v/\Z4l c.toNat=false/\c≠47
theorem ZiX:∀(n pos:Nat)(s:List UInt8)(l:List Tk),Z9Y n pos s = .inr l->∀t∈l,Zs3 t
 |0,_,_,l,h,t,ht=>by cases h;cases ht
 |n+1,pos,s,l,h,t,ht=>by
  rw[Z9Y]at h
  split at h
  ·cases h;cases ht
  · cases hk:Z4c s with
    |none=>rw[hk]at h;cases h
    |some p =>
     obtain⟨kd,len,num⟩:=p
     rw[hk]at h
     simp only at h
     cases hr:Z9Y n (pos+len+skip false (s.drop len)) (s.drop (len+skip false (s.drop len))) with
     |inl e=>rw[hr]at h;cases h
     |inr m =>
      rw[hr]at h;cases h
      rcases Y0n.1 ht with rfl|ht
      · have hl:=Zb7 hk
        have h2:=ZhY hk
        have e:(s.take len).length=len:=by rw[Y0k];omega
        exact⟨by rw[e];exact h2.1,h2.2⟩
      ·exact ZiX _ _ _ _ hr t ht
end
section
def Z4V(f:Nat)(xs:List AV):Option AV:=match f with
 |63=>match xs with|[.str s,.bool m]=>if s.length<=9223372036854775807 then some (.bool (if m then Z1A s else s==[])) else none|_=>none
 |_=>none
theorem Z13{gl:Z0k}:OrcSound Y00 gl (Z6v Z4V):=Z0J λf xs r h=>by
 unfold Z4V at h
 split at h
 · split at h<;>try (cases h;done)
   split at h<;>cases h
   rename_i hs
   exact⟨rfl,Zd2 _ hs _⟩
 ·cases h
theorem Zcn:Z1A []=false:=rfl
theorem ZcH(e:Ex)(rest:List AV)(d:Int)(hok:okE e):ValOK Y00 runLives.gl 65 [.rp (e.cells++rest),.int .i64 d] (.bool (Zrf e)):=by
 obtain⟨⟨hn1,hn2⟩,_⟩:=Z6y hok
 have hb:Z0m Y00 63=true:=by kernel_rfl
 have key:∀(op num:Int)(name:List UInt8)(v:AV)(n:Nat),(∃cs,v = .rs n 4 cs)->name.length<=9223372036854775807->ValOK Y00 runLives.gl 65 [.rp (.int .i64 op::.int .i64 num::.str name::v::rest),.int .i64 d] (.bool (Zbt op num name n)):=by
  intro op num name v n hv hname
  have q:∀(m:Bool)(H:Z00),Z06 Y00 (Z6v Z4V) H 63 [.str name,.bool m]=some (.bool (if m then Z1A name else name==[]),H):=λm H=>Z1d hb rfl (by simp only[Z4V];rw[if_pos hname])
  by_cases h1:op<1
  · have e1:decide (op<1)=true:=by simpa using h1
    have hk:Z7n op = -1:=by unfold Z7n;rw[if_neg (by omega),if_neg (by omega),if_neg (by omega)]
    obtain⟨cs,rfl⟩:=hv
    all_goals
     refine Z0v follows Z05 Z13 Tryz.func65 rfl ?_
     repeat' ((conv=>whnf);first|refine exI (q _ _) ?_|refine stp ?_|with_reducible apply Z01<;>intro h)
    all_goals (show AV.bool _=AV.bool _;congr 1;unfold Zbt;rw[hk])
    all_goals (first|rfl|(symm;simp;intros;omega))
  · have e1:decide (op<1)=false:=by simpa using h1
    by_cases h2:16<op
    · have e2:decide (op>16)=true:=by simpa using h2
      have hk:Z7n op = -1:=by unfold Z7n;rw[if_neg (by omega),if_neg (by omega),if_neg (by omega)]
      obtain⟨cs,rfl⟩:=hv
      all_goals
       refine Z0v follows Z05 Z13 Tryz.func65 rfl ?_
       repeat' ((conv=>whnf);first|refine exI (q _ _) ?_|refine stp ?_|with_reducible apply Z01<;>intro h)
      all_goals (show AV.bool _=AV.bool _;congr 1;unfold Zbt;rw[hk])
      all_goals (first|rfl|(symm;simp;intros;omega))
    · clear e1
      have hop:op=1\/op=2\/op=3\/op=4\/op=5\/op=6\/op=7\/op=8\/op=9\/op=10\/op=11\/op=12\/op=13\/op=14\/op=15\/op=16:=by omega
      clear h1 h2
      rcases hop with rfl|rfl|rfl|rfl|rfl|rfl|rfl|rfl|rfl|rfl|rfl|rfl|rfl|rfl|rfl|rfl
      all_goals (obtain⟨cs,rfl⟩:=hv)
      all_goals (refine Z0v follows Z05 Z13 Tryz.func65 rfl ?_)
      all_goals (repeat' ((conv=>whnf);first|refine exI (q _ _) ?_|refine stp ?_|with_reducible apply Z01<;>intro h))
      all_goals (first|rfl|(show AV.bool _=AV.bool _;clear q hb hok hn1 hn2;simp_all[Zbt,Z7n];done)|(show AV.bool _=AV.bool _;clear q hb hok hn1 hn2;simp_all[Zbt,Z7n];omega)|skip)
      all_goals (clear q hb hok hn1 hn2)
      all_goals (show AV.bool _=AV.bool _;rw[AV.bool.injEq,Y0D])
      all_goals (first|(simp_all[Zbt,Z7n,Zcn];done)|(simp_all[Zbt,Z7n,Zcn];omega))
 obtain⟨op,num,name,kids⟩:=e
 simp only[Ex.cells];exact key op num name _ kids.length ⟨_,rfl⟩ hn1
end
section
set_option maxHeartbeats 8000000
def isW(m:Bool)(s:List UInt8):Bool:=if m then Z1A s else s==[]
def Zey(k:Int):Bool:=k==1 || (k==2 || (k==4 || (k==5 || k==6)))
def Zhj(k:Int):Bool:=decide (2<=k/\k<=6)
def ZfZ(k:Int):Bool:=decide (2<=k/\k<=7)
def ZlR(k:Int):Nat:=if k=2\/k=7 then 0 else if k=4 then 2 else 1
def Zpt(k:Int):Bool:=k==10 || k==11
def Zj7(k:Int):Bool:=k==10
def Z8g(kind:Int)(name loc:List UInt8)(order:Int)(nx nt ne:Nat):Bool :=
 decide (1<=kind/\kind<=11)&&(isW (Zey kind) name&&(isW (Zhj kind) loc&&((if ZfZ kind then decide (1<=order/\order<=6) else order==0)&&(decide (nx=ZlR kind)&&((Zpt kind || decide (nt=0))&&(Zj7 kind || decide (ne=0)))))))
def ZmR(x:St):Bool:=Z8g x.kind x.name x.loc x.order x.exprs.length x.thn.length x.els.length
theorem Zh0 (kind : Int) (name loc : List UInt8) (order : Int) (nx nt ne : Nat) (cx ct ce rest : List AV) (d : Int) (hn : name.length <= 9223372036854775807) (hl : loc.length <= 9223372036854775807) :
  ValOK Y00 runLives.gl 66 [.rp (.int .i64 kind::.str name::.str loc::.int .i64 order::.rs nx 4 cx::.rs nt 7 ct::.rs ne 7 ce::rest),.int .i64 d] (.bool (Z8g kind name loc order nx nt ne)):=by
 have hb:Z0m Y00 63=true:=by kernel_rfl
 have q1:∀(m:Bool)(H:Z00),Z06 Y00 (Z6v Z4V) H 63 [.str name,.bool m]=some (.bool (isW m name),H):=λm H=>Z1d hb rfl (by simp only[Z4V,isW];rw[if_pos hn])
 have q2:∀(m:Bool)(H:Z00),Z06 Y00 (Z6v Z4V) H 63 [.str loc,.bool m]=some (.bool (isW m loc),H):=λm H=>Z1d hb rfl (by simp only[Z4V,isW];rw[if_pos hl])
 by_cases h1:kind<1
 · have e1:decide (kind<1)=true:=by simpa using h1
   refine Z0v follows Z05 Z13 Tryz.func66 rfl ?_
   repeat' ((conv=>whnf);(first|refine stp ?_|with_reducible apply Z01<;>intro h))
   all_goals (show AV.bool _=AV.bool _;congr 1;unfold Z8g;symm;rw[Y0B];left;simpa using λh=>absurd h (by omega))
 · have e1:decide (kind<1)=false:=by simpa using h1
   by_cases h2:11<kind
   · have e2:decide (kind>11)=true:=by simpa using h2
     refine Z0v follows Z05 Z13 Tryz.func66 rfl ?_
     repeat' ((conv=>whnf);(first|refine stp ?_|with_reducible apply Z01<;>intro h))
     all_goals (show AV.bool _=AV.bool _;congr 1;unfold Z8g;symm;rw[Y0B];left;simpa using λ_=>h2)
   · clear e1
     have hop:kind=1\/kind=2\/kind=3\/kind=4\/kind=5\/kind=6\/kind=7\/kind=8\/kind=9\/kind=10\/kind=11:=by omega
     clear h1 h2
     have b1:∀m,isW m name=true\/isW m name=false:=λm=>by cases isW m name<;>simp
     have b2:∀m,isW m loc=true\/isW m loc=false:=λm=>by cases isW m loc<;>simp
     rcases hop with rfl|rfl|rfl|rfl|rfl|rfl|rfl|rfl|rfl|rfl|rfl
     all_goals (refine Z0v follows Z05 Z13 Tryz.func66 rfl ?_)
     all_goals (repeat' ((conv=>whnf);first|refine exI (q1 _ _) ?_|refine exI (q2 _ _) ?_|refine stp ?_|with_reducible apply Z01<;>intro h))
     all_goals (clear q1 q2 hb b1 b2)
     all_goals (first|rfl|(show AV.bool _=AV.bool _;rw[AV.bool.injEq,Y0D];simp_all[Z8g,Zey,Zhj,ZfZ,ZlR,Zpt,Zj7];done)|(show AV.bool _=AV.bool _;rw[AV.bool.injEq,Y0D];simp_all[Z8g,Zey,Zhj,ZfZ,ZlR,Zpt,Zj7];omega)|skip)
     all_goals trace_state
end
section
structure TqW (T:List Tq):Prop where
 wd:∀i (h:i<T.length),T[i].kind=1->Z1A T[i].text=true/\T[i].text.length<=9223372036854775807
 nm:∀i (h:i<T.length),T[i].kind=3->0<=T[i].num
 few:T.length<=1000000
def Ze7(T:List Tq)(i:Nat):Tq:=T[i]?.getD ⟨5,[],0,0⟩
def ZmM(T:List Tq)(i:Nat):Bool:=(Ze7 T i).kind==4 || (Ze7 T i).kind==2
def Zio(w:List UInt8):Nat:=if w==[59] then 1 else 0
def Zgu(w:List UInt8):Int:=if upB w=true then 1 else if dnB w=true then -1 else 0
def ZhW(w:List UInt8):Nat:=if w==Z7p || (w==Zaw || w==Z7o) then 1 else 0
def mU(T:List Tq):Nat->Nat
 |0=>0
 |i+1=>mU T i+if ZmM T i then Zio (Ze7 T i).text else 0
def bU(T:List Tq):Nat->Int
 |0=>0
 |i+1=>bU T i+if ZmM T i then Zgu (Ze7 T i).text else 0
def tU(T:List Tq):Nat->Nat
 |0=>0
 |i+1=>tU T i+if ZmM T i then ZhW (Ze7 T i).text else 0
def Fit(T:List Tq)(s:Ps)(z c:Nat)(b:Int)(s':Ps):Prop :=
 s.i<=s'.i/\(s'.err=0->s'.i<T.length->s.err=0/\s.i+z<=s'.i/\mU T s'.i=mU T s.i+c/\bU T s'.i=bU T s.i+b/\tU T s'.i=tU T s.i/\s'.at_=s.at_/\s'.op=s.op+b)
theorem Fit.refl{T:List Tq}(s:Ps):Fit T s 0 0 0 s:=⟨Y01 _,λh1 _=>⟨h1,Y01 _,rfl,by omega,rfl,rfl,by omega⟩⟩
theorem Fit.trans{T:List Tq}{s s1 s2:Ps}{z1 z2 c1 c2:Nat}{b1 b2:Int}(h:Fit T s z1 c1 b1 s1)(k:Fit T s1 z2 c2 b2 s2):Fit T s (z1+z2) (c1+c2) (b1+b2) s2:=by
 refine⟨Y0i h.1 k.1,λh1 h2=>?_⟩
 obtain⟨a1,a2,a3,a4,a5⟩:=k.2 h1 h2
 have:=k.1
 obtain⟨d1,d2,d3,d4,d5⟩:=h.2 a1 (by omega)
 exact⟨d1,by omega,by omega,by omega,by omega,by omega,by omega⟩
theorem Fit.to{T:List Tq}{s s':Ps}{z z' c c':Nat}{b b':Int}(h:Fit T s z c b s')(hz:z'<=z)(hc:c=c')(hb:b=b'):Fit T s z' c' b' s':=by
 subst hc hb
 refine⟨h.1,λh1 h2=>?_⟩
 obtain⟨a1,a2,a3,a4,a5⟩:=h.2 h1 h2
 exact⟨a1,by omega,a3,a4,a5⟩
theorem Z6z{T:List Tq}{s:Ps}:Z0r T s=Ze7 T s.i:=rfl
theorem Z1H{s:Ps}{e a:Int}(he:e≠0):(Z0p s e a).err≠0:=by
 unfold Z0p
 split
 ·exact he
 ·assumption
theorem Z9C(s:Ps)(e a:Int):(Z0p s e a).i=s.i:=by unfold Z0p;split<;>rfl
theorem Fit.fail{T:List Tq}{s s1:Ps}{e a:Int}{z c:Nat}{b:Int}(h:s.i<=s1.i)(he:e≠0):Fit T s z c b (Z0p s1 e a):=⟨by rw[Z9C];exact h,λh1=>absurd h1 (Z1H he)⟩
theorem Fit.one{T:List Tq}{s s':Ps}{w:List UInt8}(hi:isF T s w=true)(h1:s'.i=s.i+1)(hw:ZhW w=0)(ho:s'.op=s.op+Zgu w)(ha:s'.at_=s.at_:=by rfl):Fit T s 1 (Zio w) (Zgu w) s':=by
 unfold isF at hi
 simp only[Bool.and_eq_true,beq_iff_eq]at hi
 obtain⟨h2,h3,h4⟩:=hi
 rw[Z6z]at h3 h4
 have h5:ZmM T s.i=true:=h3
 refine⟨by omega,λ_ _=>⟨h2,by omega,?_,?_,?_,ha,ho⟩⟩
 ·rw[h1];simp only[mU,h5,if_true,h4]
 ·rw[h1];simp only[bU,h5,if_true,h4]
 ·rw[h1];simp only[tU,h5,if_true,h4,hw];rfl
theorem Fit.atom{T:List Tq}{s s':Ps}(he:s.err=0)(hk:(Z0r T s).kind=1\/(Z0r T s).kind=3)(h1:s'.i=s.i+1)(ho:s'.op=s.op:=by rfl)(ha:s'.at_=s.at_:=by rfl):Fit T s 1 0 0 s':=by
 rw[Z6z]at hk
 have h5:ZmM T s.i=false:=by unfold ZmM;rcases hk with h|h<;>rw[h]<;>rfl
 refine⟨by omega,λ_ _=>⟨he,by omega,?_,?_,?_,ha,by omega⟩⟩
 ·rw[h1];simp only[mU,h5];rfl
 ·rw[h1];simp only[bU,h5];simp
 ·rw[h1];simp only[tU,h5];rfl
theorem Fit.op1{T:List Tq}{s s1:Ps}{z c:Nat}(h:Fit T { s with op:=s.op+1 } z c 0 s1):Fit T s z c 0 { s1 with op:=s1.op-1 }:=by
 refine⟨h.1,λh1 h2=>?_⟩
 obtain⟨a1,a2,a3,a4,a5,a6,a7⟩:=h.2 h1 h2
 refine⟨a1,a2,a3,a4,a5,a6,?_⟩
 replace a7:s1.op=s.op+1+0:=a7
 show s1.op-1=s.op+0
 omega
theorem Zfr{T:List Tq}{s:Ps}{w:List UInt8}:s.i<=(Z0l T s w).i:=by
 unfold Z0l
 split
 · split
   ·rw[Z9C];exact Y01 _
   ·exact Nat.le_succ _
 ·exact Y01 _
theorem Z8r{T:List Tq}{s:Ps}{w:List UInt8}(h:Z0L T s w=true)(hw:ZhW w=0):Fit T s 1 (Zio w) (Zgu w) (Z0l T s w):=by
 unfold Z0L at h
 simp only[Y07,Y0E]at h
 have e:Z0l T s w={ s with i:=s.i+1,op:=if upB w=true then s.op+1 else if dnB w=true then s.op-1 else s.op }:=by
  unfold Z0l
  rw[if_pos h.1,if_neg (by rintro⟨a,b⟩;have:=h.2;simp[a,b]at this)]
 rw[e]
 refine Fit.one h.1 rfl hw ?_
 show (if upB w=true then s.op+1 else if dnB w=true then s.op-1 else s.op)=s.op+Zgu w
 unfold Zgu
 split
 ·rfl
 ·split<;>omega
theorem Zi3{T:List Tq}{s:Ps}{w:List UInt8}(h:Z0L T s w=false):Fit T s 0 0 0 (Z0l T s w):=by
 unfold Z0l
 split
 · rename_i hi
   split
   ·exact Fit.fail (Y01 _) (by decide)
   · rename_i h2
     exfalso
     unfold Z0L at h
     rw[hi]at h
     simp at h
     exact h2 h
 ·exact Fit.refl s
theorem Z1t{T:List Tq}(s:Ps){w:List UInt8}(hw:ZhW w=0):Fit T s 1 (Zio w) (Zgu w) (Z03 T s w):=by
 unfold Z03
 split
 ·rename_i h;exact Z8r h hw
 ·exact Fit.fail Zfr (by decide)
theorem ZaY{T:List Tq}(s:Ps):Fit T s 1 0 0 (Z0e T s):=by
 unfold Z0e
 split
 · rename_i h
   unfold Z1Q at h
   simp only[Y07,beq_iff_eq]at h
   exact Fit.atom h.1 (.inl h.2) rfl
 ·exact Fit.fail (Y01 _) (by decide)
theorem Zb9{T:List Tq}(hT:TqW T){i:Nat}(h:(Ze7 T i).kind=1):Z1A (Ze7 T i).text=true/\(Ze7 T i).text.length<=9223372036854775807:=by
 unfold Ze7 at h⊢
 by_cases hi:i<T.length
 · rw[List.getElem?_eq_getElem hi]at h⊢
   exact hT.wd i hi h
 ·rw[Y0C (by omega)]at h;exact absurd h (by decide)
theorem Zi2{T:List Tq}(hT:TqW T){i:Nat}(h:(Ze7 T i).kind=3):0<=(Ze7 T i).num:=by
 unfold Ze7 at h⊢
 by_cases hi:i<T.length
 · rw[List.getElem?_eq_getElem hi]at h⊢
   exact hT.nm i hi h
 ·rw[Y0C (by omega)]at h;exact absurd h (by decide)
theorem ZaX{T:List Tq}(hT:TqW T){s:Ps}(h:(Z0e T s).err=0):Z1A (Z0Z T s)=true/\(Z0Z T s).length<=9223372036854775807:=by
 unfold Z0e at h
 split at h
 · rename_i h1
   unfold Z0Z
   rw[if_pos h1]
   unfold Z1Q at h1
   simp only[Y07,beq_iff_eq]at h1
   exact Zb9 hT h1.2
 ·exact absurd h (Z1H (by decide))
theorem ZiF{T:List Tq}:∀(l:List (List UInt8))(s:Ps)(k:Int),(∀w∈l,ZhW w=0/\Zio w=0/\Zgu w=0)->Fit T s 1 0 0 (Z0a T s l k).2/\((Z0a T s l k).2.err=0->k<=(Z0a T s l k).1/\(Z0a T s l k).1<k+l.length)
 |[],s,k,_=>⟨Fit.fail (Y01 _) (by decide),λh=>absurd h (Z1H (by decide))⟩
 |w::l,s,k,hl=>by
  obtain⟨h1,h2,h3⟩:=hl w (by simp)
  unfold Z0a
  split
  · rename_i ht
    refine⟨(Z8r ht h1).to (Y01 _) h2 h3,λ_=>⟨Int.le_refl _,?_⟩⟩
    show k<k+((l.length+1:Nat):Int);omega
  · rename_i ht
    obtain⟨h4,h5⟩:=ZiF l (Z0l T s w) (k+1) (λx hx=>hl x (by simp[hx]))
    refine⟨((Zi3 (by simpa using ht)).trans h4).to (by omega) (by omega) (by omega),λh=>?_⟩
    obtain⟨a,b⟩:=h5 h
    refine⟨by omega,?_⟩
    show _<k+((l.length+1:Nat):Int);omega
theorem ZnW:∀w∈ordL,ZhW w=0/\Zio w=0/\Zgu w=0:=by decide
theorem ZcO{T:List Tq}(s:Ps):Fit T s 1 0 0 (Z0a T s ordL 1).2/\((Z0a T s ordL 1).2.err=0->1<=(Z0a T s ordL 1).1/\(Z0a T s ordL 1).1<=6):=by
 obtain⟨h1,h2⟩:=ZiF (T:=T) ordL s 1 ZnW
 refine⟨h1,λh=>?_⟩
 obtain⟨a,b⟩:=h2 h
 have:((ordL.length:Nat):Int)=6:=by decide
 omega
def VE(e:Ex):Prop:=okE e/\Z14 e=true
def ZhD(T:List Tq)(s:Ps)(x:Ex)(s':Ps):Prop:=Fit T s (Z0A x) 0 0 s'/\(s'.err=0->s'.i<T.length->VE x)
theorem ZpF{o:Int}{x y:Ex}(ho:Zbt o 0 [] 2=true)(hx:VE x)(hy:VE y):VE (.mk o 0 [] [x,y]):=by
 unfold VE at *
 refine⟨by simp only[okE,okL,okN];exact⟨⟨by decide,by show 2<=_;decide⟩,hx.1,hy.1,trivial⟩,?_⟩
 simp only[Z14,rightL,hx.2,hy.2,Y0m]
 exact ho
theorem ZpG{o:Int}{x:Ex}(ho:Zbt o 0 [] 1=true)(hx:VE x):VE (.mk o 0 [] [x]):=by
 unfold VE at *
 refine⟨by simp only[okE,okL,okN];exact⟨⟨by decide,by show 1<=_;decide⟩,hx.1,trivial⟩,?_⟩
 simp only[Z14,rightL,hx.2,Y0m]
 exact ho
def Zhc(l:List (List UInt8×Int)):Prop:=∀p∈l,Zbt p.2 0 [] 2=true/\ZhW p.1=0/\Zio p.1=0/\Zgu p.1=0
theorem Zbr {T : List Tq} {i0 : Nat} {rec1 : Ps -> Ex × Ps} (hrec : ∀ s, i0 <= s.i -> ZhD T s (rec1 s).1 (rec1 s).2) {s0 : Ps} (hi : i0 <= s0.i) :
  ∀(l:List (List UInt8×Int)),Zhc l->∀(x:Ex)(s:Ps)(a:Bool),ZhD T s0 x s->ZhD T s0 (Z1s T rec1 l x s a).1 (Z1s T rec1 l x s a).2.1
 |[],_,x,s,a,h=>h
 |(w,o)::l,hl,x,s,a,h=>by
  obtain⟨k1,k2,k3,k4⟩:=hl (w,o) (by simp)
  have hl':Zhc l:=λp hp=>hl p (by simp[hp])
  unfold Z1s
  split
  · rename_i ht
    have t1:=Z8r (T:=T) ht k2
    have t2:=hrec (Z0l T s w) (Y0i hi (Y0i h.1.1 t1.1))
    refine Zbr hrec hi l hl' _ _ _ ⟨((h.1.trans t1).trans t2.1).to (by simp only[Z0A,sizeL];omega) (by rw[k3]) (by rw[k4];rfl),λe1 e2=>?_⟩
    obtain⟨a1,a2,-⟩:=t2.1.2 e1 e2
    have b1:(Z0l T s w).i<T.length:=by omega
    obtain⟨a3,a4,-⟩:=t1.2 a1 b1
    exact ZpF k1 (h.2 a3 (by omega)) (t2.2 e1 e2)
  · rename_i ht
    have t1:=Zi3 (T:=T) (s:=s) (w:=w) (by simpa using ht)
    refine Zbr hrec hi l hl' _ _ _ ⟨(h.1.trans t1).to (by omega) (by omega) (by omega),λe1 e2=>?_⟩
    obtain⟨a3,a4,-⟩:=t1.2 e1 e2
    exact h.2 a3 (by omega)
theorem ZfR {T : List Tq} {i0 : Nat} {rec1 : Ps -> Ex × Ps} (hrec : ∀ s, i0 <= s.i -> ZhD T s (rec1 s).1 (rec1 s).2) {s0 : Ps} (hi : i0 <= s0.i) {l : List (List UInt8 × Int)} (hl : Zhc l) :
  ∀(k:Nat)(x:Ex)(s:Ps),ZhD T s0 x s->ZhD T s0 (Z24 T rec1 l k x s).1 (Z24 T rec1 l k x s).2
 |0,x,s,h=>h
 |k+1,x,s,h=>by
  unfold Z24
  have h1:=Zbr hrec hi l hl x s false h
  split
  ·exact ZfR hrec hi hl k _ _ h1
  ·exact h1
theorem Zq9:∀n,Zhc (lvS n)
 |0=>by unfold Zhc lvS;decide
 |1=>by unfold Zhc lvS;decide
 |2=>by unfold Zhc lvS;decide
 |3=>by unfold Zhc lvS;decide
 |4=>by unfold Zhc lvS;decide
 |5=>by unfold Zhc lvS;decide
 |6=>by unfold Zhc lvS;decide
 |7=>by unfold Zhc lvS;decide
 |n+8=>by rw[show lvS (n+8)=[([42],16)] from rfl];unfold Zhc;decide
theorem Zc0{T:List Tq}{i0:Nat}{un:Ps->Ex×Ps}(hun:∀s,i0<=s.i->ZhD T s (un s).1 (un s).2):∀(m:Nat)(s:Ps),i0<=s.i->ZhD T s (Z3A T un m s).1 (Z3A T un m s).2
 |0,s,h=>hun s h
 |m+1,s,h=>by
  unfold Z3A
  exact ZfR (λt ht=>Zc0 hun m t ht) h (Zq9 _) _ _ _ (Zc0 hun m s h)
theorem ZmA{T:List Tq}(hT:TqW T){ex:Ps->Ex×Ps}{s:Ps}(hex:∀t,s.i+1<=t.i->ZhD T t (ex t).1 (ex t).2):ZhD T s (Z1m T ex s).1 (Z1m T ex s).2:=by
 unfold Z1m
 split
 · rename_i he
   exact⟨⟨Y01 _,λh=>absurd h he⟩,λh=>absurd h he⟩
 rename_i he
 replace he:s.err=0:=Classical.not_not.1 he
 split
 · rename_i hk
   refine⟨(Fit.atom he (.inr hk) rfl).to (by simp only[Z0A,sizeL];omega) rfl rfl,λ_ _=>⟨by simp only[okE,okL,okN];exact⟨⟨by decide,by decide⟩,trivial⟩,?_⟩⟩
   have:=Zi2 hT (Z6z ▸ hk)
   simp only[Z14,rightL,Zbt,Z6z,this,decide_true]
   rfl
 split
 · rename_i hk
   obtain⟨w1,w2⟩:=Zb9 hT (Z6z ▸ hk)
   refine⟨(Fit.atom he (.inl hk) rfl).to (by simp only[Z0A,sizeL];omega) rfl rfl,λ_ _=>⟨by simp only[okE,okL,okN];exact⟨⟨w2,by decide⟩,trivial⟩,?_⟩⟩
   simp only[Z14,rightL,Zbt,Z6z,w1]
   rfl
 split
 · rename_i ht
   have t1:=Z8r (T:=T) ht rfl
   have t0:s.i+1<=(Z0l T s [40]).i:=by
    have h1:=ht
    unfold Z0L at h1
    simp only[Y07,Y0E]at h1
    unfold Z0l
    rw[if_pos h1.1,if_neg (by rintro⟨a,b⟩;have:=h1.2;simp[a,b]at this)]
    exact Y01 _
   have t2:=hex _ t0
   have t3:=Z1t (T:=T) (ex (Z0l T s [40])).2 (w:=[41]) rfl
   refine⟨Fit.to (z':=Z0A (ex (Z0l T s [40])).1) ((t1.trans t2.1).trans t3) (by omega) rfl rfl,λe1 e2=>?_⟩
   obtain⟨a1,a2,-⟩:=t3.2 e1 e2
   replace e2:(Z03 T (ex (Z0l T s [40])).2 [41]).i<T.length:=e2
   exact t2.2 a1 (by omega)
 ·exact⟨Fit.fail Zfr (by decide),λh=>absurd h (Z1H (by decide))⟩
theorem ZhU{T:List Tq}(hT:TqW T):∀(d:Nat)(s:Ps),T.length<=s.i+d->ZhD T s (unF T d s).1 (unF T d s).2
 |0,s,h=>⟨⟨Y01 _,λ_ h2=>absurd h2 (by show ¬s.i<_;omega)⟩,λ_ h2=>absurd h2 (by show ¬s.i<_;omega)⟩
 |d+1,s,h=>by
  unfold unF
  split
  ·exact ZmA hT (λt ht=>Zc0 (i0:=t.i) (λu hu=>ZhU hT d u (by omega)) 9 t (Y01 _))
  rename_i h2
  split
  ·exact⟨Fit.fail (Y01 _) (by decide),λh=>absurd h (Z1H (by decide))⟩
  · have hs : Fit T s 1 0 0 { s with i := s.i + 1 } := by
     by_cases h3:isF T s [45]=true
     ·exact Fit.one (w:=[45]) h3 rfl rfl (Int.add_zero _).symm
     · by_cases h4:isF T s [33]=true
       ·exact Fit.one (w:=[33]) h4 rfl rfl (Int.add_zero _).symm
       ·exact absurd ⟨by simpa using h3,by simpa using h4⟩ h2
    have t2:=ZhU hT d { s with i:=s.i+1,op:=s.op+1 } (by show _<=s.i+1+d;omega)
    refine⟨(hs.trans (Fit.op1 (s:={ s with i:=s.i+1 }) t2.1)).to (by simp only[Z0A,sizeL];omega) rfl rfl,λe1 e2=>ZpG ?_ (t2.2 e1 e2)⟩
    split<;>decide
theorem Z6L{T:List Tq}(hT:TqW T)(s:Ps):ZhD T s (Z0D T s).1 (Z0D T s).2:=Zc0 (i0:=0) (λu hu=>ZhU hT T.length u (by omega)) 9 s (Y05 _)
theorem ZeY{T:List Tq}(hT:TqW T)(s:Ps):ZhD T s (Z28 T s).1 (Z28 T s).2:=by
 have t1:=Z1t (T:=T) s (w:=[40]) rfl
 have t2:=Z6L hT (Z03 T s [40])
 have t3:=Z1t (T:=T) (Z0D T (Z03 T s [40])).2 (w:=[41]) rfl
 refine⟨((t1.trans t2.1).trans t3).to (by show Z0A (Z0D T (Z03 T s [40])).1<=1+Z0A (Z0D T (Z03 T s [40])).1+1;omega) rfl rfl,λe1 e2=>?_⟩
 obtain⟨a1,a2,-⟩:=t3.2 e1 e2
 replace e2:(Z03 T (Z0D T (Z03 T s [40])).2 [41]).i<T.length:=e2
 exact t2.2 a1 (by omega)
end
section
theorem Zq5{sn:Z0o}{ι : Z0n}{W:World}(h:R sn ι [] W) : ι = noI:=by
 funext b
 cases hb : ι b with
 |none=>rfl
 |some p=>have:=(h.dom b).2 ⟨p,hb⟩;simp at this
theorem Z7l{P:Program}{gl:Z0k}{f:Nat}{args:List AV}{r:AV}(h:ValOK P gl f args r)(hp:plain r=true):Z1v P gl f args [] r []:=by
 intro sn ι W cargs hg hR ha
 have:=Zq5 hR;subst this
 refine (h sn W cargs hg hR ha).monoY ?_
 rintro e W' ⟨v,rfl,hx,hv⟩
 exact⟨v,sn,noI,rfl,Z6t hp hv,Stp.ext hR hx⟩
theorem Zad{P:Program}{gl:Z0k}{f:Nat}{args:List AV}{r:AV}(h:Z1v P gl f args [] r [])(hp:plain r=true)(hb:(P.funcs[f]?).isSome=true:=by kernel_rfl):ValOK P gl f args r:=by
 intro sn W cargs hg hR ha
 obtain⟨fn,hfn⟩:=Option.isSome_iff_exists.1 hb
 refine ((h sn noI W cargs hg hR ha).calls hfn).mono ?_
 rintro e W' ⟨v,sn',ι',rfl,hv,hs⟩
 exact⟨v,rfl,⟨λc hc=>hs.frame c hc λb o p hb=>by simp at hb,hs.size,hs.os,hs.tape,hs.output⟩,Z6t hp hv⟩
def rE(e:Ex)(_:Int)(s:Unit):Bool×Unit:=(Zrf e,s)
mutual
theorem Zrr:∀(e:Ex)(d:Int)(s:Unit),goE rE e d s=(Z14 e,())
 | .mk o n s k,d,t=>by
  have:=goL_r k (d+1) ()
  simp only[goE,rE,Zrf,Ex.op,Ex.num,Ex.name,Ex.kids,Z14,this]
  cases Zbt o n s k.length<;>rfl
theorem goL_r:∀(l:List Ex)(d:Int)(s:Unit),goL rE l d s=(rightL l,())
 |[],d,s=>by simp only[goL,rightL]
 |e::l,d,s=>by
  simp only[goL,Zrr e d s,goL_r l d (),rightL]
  cases Z14 e<;>rfl
end
def rVE:TvE runLives.gl where
 σ:=Unit
 Mem:=λ_=>[]
 k:=0
 len:=λ_=>rfl
 same:=λ_=>⟨trivial,rfl,rfl⟩
 evo:=λ_ _=>rfl
 inj:=λ_ _ _=>rfl
 I:=λd s m=>0<=d/\d+m<=1152921504606846976
 up:=λd s m h0 h=>⟨h0,by have:=h.2;omega⟩
 less:=λd s m h=>⟨h.1,by have:=h.2;omega⟩
 bnd:=λd s m h=>⟨h.1,by have:=h.2;omega⟩
 gE:=65
 cE:=[]
 hE:=rE
 bodyE:=by kernel_rfl
 wkE:=trivial
 okE:=λe rest d s m ho _=>Z7l (ZcH e rest d ho) rfl
 downE:=λe d s m h _=>⟨by have:=h.1;omega,by have:=h.2;omega⟩
theorem ZoD(l:List Ex)(d:Int)(hok:okL l)(hl:l.length<=9223372036854775807)(h0:0<=d)(h1:d+sizeL l<=1152921504606846976):ValOK Y00 runLives.gl 78 [exA l,.int .i64 d,.func (.func 65) [] []] (.bool (rightL l)):=by
 have:=TvE.exprs rVE follows (sizeL l) l d () 0 (Y01 _) hok hl ⟨h0,h1⟩
 have e:(goL rVE.hE l d ()).1=rightL l:=by
  have:=goL_r l d ()
  show (goL rE l d ()).1=_
  rw[this]
 rw[e]at this
 exact Zad this rfl
def cE(_:Ex)(d:Int)(n:Nat):Bool×Nat:=(decide (((n+1:Nat):Int)<=2000)&&decide (d<=32),n+1)
def Cnt(r:Bool×Nat)(n a:Nat)(D:Int):Prop:=(r.1=true ↔ n+a<=2000/\D<=33)/\(r.1=true->r.2=n+a)
theorem Z4j{r:Bool×Nat}{f:Nat->Bool×Nat}{n a b:Nat}{D1 D2:Int}(h1:Cnt r n a D1)(h2:n+a<=2000->D1<=33->Cnt (f (n+a)) (n+a) b D2):Cnt (Z1C r f) n (a+b) (max D1 D2):=by
 obtain⟨g1,g2⟩:=h1
 unfold Z1C
 by_cases h:r.1=true
 · rw[if_pos h,g2 h]
   have h3:=g1.1 h
   obtain⟨k1,k2⟩:=h2 h3.1 h3.2
   refine⟨?_,λh4=>by rw[k2 h4];omega⟩
   rw[k1]
   constructor<;>(intro h;omega)
 · rw[if_neg h]
   refine⟨⟨λh=>(by cases h),λh3=>absurd (g1.2 (by omega)) h⟩,λh=>(by cases h)⟩
theorem ZbW(d:Int)(n:Nat):Cnt (decide (((n+1:Nat):Int)<=2000)&&decide (d<=32),n+1) n 1 (d+1):=by
 refine⟨?_,λ_=>rfl⟩
 simp only[Y07,decide_eq_true_eq]
 constructor<;>(intro h;omega)
theorem Cnt.to{r:Bool×Nat}{n a b:Nat}{D E:Int}(h:Cnt r n a D)(e1:a=b)(e2:D=E):Cnt r n b E:=by subst e1;subst e2;exact h
mutual
theorem Zrs:∀(e:Ex)(d:Int)(n:Nat),Cnt (goE cE e d n) n (Z0A e) (d+Z4z e)
 | .mk o num s k,d,n=>by
  have:goE cE (.mk o num s k) d n=Z1C (cE (.mk o num s k) d n) λn=>goL cE k (d+1) n:=by simp only[goE,Z1C]
  rw[this]
  exact (Z4j (ZbW d n) λh1 h2=>goL_c k (d+1) (n+1) h1 h2).to (by simp only[Z0A]) (by simp only[Z4z];omega)
theorem goL_c:∀(l:List Ex)(d:Int)(n:Nat),n<=2000->d<=33->Cnt (goL cE l d n) n (sizeL l) (d+deepL l)
 |[],d,n,h1,h2=>by simp only[goL,sizeL,deepL];exact⟨⟨λ_=>by omega,λ_=>rfl⟩,λ_=>rfl⟩
 |e::l,d,n,h1,h2=>by
  have:goL cE (e::l) d n=Z1C (goE cE e d n) λn=>goL cE l d n:=by simp only[goL,Z1C]
  rw[this]
  exact (Z4j (Zrs e d n) λh1 _=>goL_c l d _ h1 h2).to (by simp only[sizeL]) (by simp only[deepL];omega)
end
end
section
def rS(x:St)(_:Int)(s:Unit):Bool×Unit:=(ZmR x,s)
mutual
def Z4v:St->Bool
 | .mk k n l o x t e=>ZmR (.mk k n l o x t e)&&(rightL x&&(rightSL t&&rightSL e))
def rightSL:List St->Bool
 |[]=>true
 |x::l=>Z4v x&&rightSL l
end
mutual
theorem Zrp:∀(x:St)(d:Int)(s:Unit),goS rE rS x d s=(Z4v x,())
 | .mk k n l o x t e,d,s=>by
  simp only[goS,rS,Z4v,goL_r x (d+1) (),goSL_r t (d+1) (),goSL_r e (d+1) (),Z1C]
  cases ZmR (.mk k n l o x t e)<;>cases rightL x<;>cases rightSL t<;>rfl
theorem goSL_r:∀(l:List St)(d:Int)(s:Unit),goSL rE rS l d s=(rightSL l,())
 |[],d,s=>by simp only[goSL,rightSL]
 |x::l,d,s=>by
  simp only[goSL,Zrp x d s,goSL_r l d (),rightSL,Z1C]
  cases Z4v x<;>rfl
end
def rV:TvS runLives.gl where
 σ:=Unit
 Mem:=λ_=>[]
 k:=0
 len:=λ_=>rfl
 same:=λ_=>⟨trivial,rfl,rfl⟩
 evo:=λ_ _=>rfl
 inj:=λ_ _ _=>rfl
 I:=λd s m=>0<=d/\d+m<=1152921504606846976
 up:=λd s m h0 h=>⟨h0,by have:=h.2;omega⟩
 less:=λd s m h=>⟨h.1,by have:=h.2;omega⟩
 bnd:=λd s m h=>⟨h.1,by have:=h.2;omega⟩
 gE:=65
 cE:=[]
 hE:=rE
 bodyE:=by kernel_rfl
 wkE:=trivial
 okE:=λe rest d s m ho _=>Z7l (ZcH e rest d ho) rfl
 downE:=λe d s m h _=>⟨by have:=h.1;omega,by have:=h.2;omega⟩
 gS:=66
 cS:=[]
 hS:=rS
 bodyS:=by kernel_rfl
 wkS:=trivial
 okS:=λx rest d s m ho _=>by
  refine Z7l ?_ rfl
  obtain⟨k1,k2,_⟩:=Z6w ho
  obtain⟨k,n,l,o,x,t,e⟩:=x
  simp only[St.cells,exA]
  exact Zh0 k n l o x.length t.length e.length _ _ _ rest d k1 k2
 downS:=λe d s m h _=>⟨by have:=h.1;omega,by have:=h.2;omega⟩
theorem ZnD(l:List St)(d:Int)(hok:okSL l)(hl:l.length<=9223372036854775807)(h0:0<=d)(h1:d+sizeSL l<=1152921504606846976):ValOK Y00 runLives.gl 64 [stA l,.int .i64 d,.func (.func 65) [] [],.func (.func 66) [] []] (.bool (rightSL l)):=by
 have:=TvS.stmts rV (sizeSL l) l d () 0 (Y01 _) hok hl ⟨h0,h1⟩
 have e:(goSL rV.hE rV.hS l d ()).1=rightSL l:=by
  have:=goSL_r l d ()
  show (goSL rE rS l d ()).1=_
  rw[this]
 rw[e]at this
 exact Zad this rfl
def cS(_:St)(d:Int)(n:Nat):Bool×Nat:=(decide (((n+1:Nat):Int)<=2000)&&decide (d<=32),n+1)
mutual
theorem Zrq:∀(x:St)(d:Int)(n:Nat),Cnt (goS cE cS x d n) n (Z12 x) (d+Zds x)
 | .mk k nm lc o x t e,d,n=>by
  simp only[goS]
  refine Cnt.to (Z4j (ZbW d n) λh1 h2=>Z4j (goL_c x (d+1) (n+1) h1 h2) λh1 _=>Z4j (goSL_c t (d+1) _ h1 h2) λh1 _=>goSL_c e (d+1) _ h1 h2) ?_ ?_
  ·simp only[Z12];omega
  ·simp only[Zds];omega
theorem goSL_c:∀(l:List St)(d:Int)(n:Nat),n<=2000->d<=33->Cnt (goSL cE cS l d n) n (sizeSL l) (d+deepSL l)
 |[],d,n,h1,h2=>by simp only[goSL,sizeSL,deepSL];exact⟨⟨λ_=>by omega,λ_=>rfl⟩,λ_=>rfl⟩
 |e::l,d,n,h1,h2=>by
  simp only[goSL]
  exact (Z4j (Zrq e d n) λh1 _=>goSL_c l d _ h1 h2).to (by simp only[sizeSL]) (by simp only[deepSL];omega)
end
end
section
theorem Fit.need{T:List Tq}{s s1:Ps}{z c:Nat}{b:Int}(h:Fit T s z c b s1){w:List UInt8}(hw:ZhW w=0):Fit T s (z+1) (c+Zio w) (b+Zgu w) (Z03 T s1 w):=h.trans (Z1t s1 hw)
theorem Fit.back{T:List Tq}{s s1:Ps}{z c:Nat}{b:Int}(h:Fit T s z c b s1)(e1:s1.err=0)(e2:s1.i<T.length):s.err=0/\s.i<T.length:=⟨(h.2 e1 e2).1,Nat.lt_of_le_of_lt h.1 e2⟩
theorem Z1K{T:List Tq}{s:Ps}{w:List UInt8}(h:isF T s w=true)(hw:ZhW w=0)(h1:Zio w=0)(h2:Zgu w=0):Fit T s 1 0 0 (Z02 s):=(Fit.one h rfl hw (by rw[h2];exact (Int.add_zero _).symm)).to (Y01 _) h1 h2
def ZsK(T:List Tq)(s:Ps)(n:Nat)(l:List Ex)(s':Ps):Prop:=Fit T s (sizeL l) 0 0 s'/\(s'.err=0->s'.i<T.length->okL l/\rightL l=true/\l.length=n)
theorem ZjH{T:List Tq}(hT:TqW T):∀(n:Nat)(s:Ps),ZsK T s n (Z3J T n s).1 (Z3J T n s).2
 |0,s=>⟨Fit.refl s,λ_ _=>⟨trivial,rfl,rfl⟩⟩
 |n+1,s=>by
  have t1:=Z1t (T:=T) s (w:=[44]) rfl
  have t2:=Z6L hT (Z03 T s [44])
  have t3:=ZjH hT n (Z0D T (Z03 T s [44])).2
  refine⟨Fit.to ((t1.trans t2.1).trans t3.1) (by simp only[Z3J,sizeL];omega) rfl rfl,λe1 e2=>?_⟩
  obtain⟨b1,b2,b3⟩:=t3.2 e1 e2
  obtain⟨a1,a2⟩:=t3.1.back e1 e2
  obtain⟨c1,c2⟩:=t2.2 a1 a2
  refine⟨?_,?_,?_⟩
  ·simp only[Z3J,okL];exact⟨c1,b1⟩
  ·simp only[Z3J,rightL,c2,b2];rfl
  ·simp only[Z3J,Y09,b3]
mutual
def Zpn:St->Nat
 | .mk k _ _ _ _ t e=>if k==10 || k==11 then semSL t+semSL e else 1
def semSL:List St->Nat
 |[]=>0
 |s::l=>Zpn s+semSL l
end
def VS(x:St):Prop:=okS x/\Z4v x=true
def FitA(T:List Tq)(s:Ps)(x:St)(s':Ps):Prop:=Fit T s (Z12 x) 0 0 s'/\(x.kind≠10/\x.kind≠11)/\(s'.err=0->s'.i<T.length->VS x)
def Zpk(T:List Tq)(s:Ps)(x:St)(s':Ps):Prop:=Fit T s (Z12 x) (Zpn x) 0 s'/\(s'.err=0->s'.i<T.length->VS x)
def ZhC(T:List Tq)(s:Ps)(l:List St)(s':Ps):Prop:=Fit T s (sizeSL l) (semSL l) 0 s'/\(s'.err=0->s'.i<T.length->okSL l/\rightSL l=true)
theorem Z5v:∀l:List St,l.length<=sizeSL l
 |[]=>Y01 _
 | .mk _ _ _ _ _ _ _::l=>by have:=Z5v l;simp only[sizeSL,Z12,Y09];omega
theorem Zfh{k:Int}{nm lc:List UInt8}{o:Int}{x:List Ex}(hn:nm.length<=9223372036854775807)(hl:lc.length<=9223372036854775807)(hx:okL x)(hx2:rightL x=true)(hlen:x.length<=2)(ho:Z8g k nm lc o x.length 0 0=true):VS (.mk k nm lc o x [] []):=by
 refine⟨?_,?_⟩
 ·simp only[okS,okN,okSL];exact⟨⟨hn,by omega⟩,⟨hl,by decide⟩,by decide,hx,trivial,trivial⟩
 · simp only[Z4v,rightSL,hx2,Y0m,ZmR,St.kind,St.name,St.loc,St.order,St.exprs,St.thn,St.els]
   exact ho
theorem Z9S {T : List Tq} (hT : TqW T) (s : Ps) {nm : List UInt8} {k : Int} {n : Nat} (hn : n <= 2) (hk : k = 2 /\ n = 0 \/ k = 3 /\ n = 1 \/ k = 4 /\ n = 2 \/ k = 5 /\ n = 1 \/ k = 6 /\ n = 1) (hnm : nm.length <= 9223372036854775807) :
  Fit T s (Z12 (Z2H T nm k n s).1-1) 0 0 (Z2H T nm k n s).2/\((Z2H T nm k n s).1.kind≠10/\(Z2H T nm k n s).1.kind≠11)/\((Z2H T nm k n s).2.err=0->(Z2H T nm k n s).2.i<T.length->isW (Zey k) nm=true->VS (Z2H T nm k n s).1):=by
 have t1:=Z1t (T:=T) s (w:=[40]) rfl
 have t2:=ZaY (T:=T) (Z03 T s [40])
 have t3:=ZjH hT n (Z0e T (Z03 T s [40]))
 have t4:=Z1t (T:=T) (Z3J T n (Z0e T (Z03 T s [40]))).2 (w:=[44]) rfl
 have t5:=ZcO (T:=T) (Z03 T (Z3J T n (Z0e T (Z03 T s [40]))).2 [44])
 have t6:=Z1t (T:=T) (Z0a T (Z03 T (Z3J T n (Z0e T (Z03 T s [40]))).2 [44]) ordL 1).2 (w:=[41]) rfl
 refine⟨Fit.to (((((t1.trans t2).trans t3.1).trans t4).trans t5.1).trans t6) (by simp only[Z2H,Z12,sizeSL];omega) rfl rfl,by simp only[Z2H,St.kind];omega,λe1 e2 hw=>?_⟩
 obtain⟨a1,a2⟩:=t6.back e1 e2
 obtain⟨o1,o2⟩:=t5.2 a1
 obtain⟨b1,b2⟩:=t5.1.back a1 a2
 obtain⟨c1,c2⟩:=t4.back b1 b2
 obtain⟨x1,x2,x3⟩:=t3.2 c1 c2
 obtain⟨d1,d2⟩:=t3.1.back c1 c2
 obtain⟨w1,w2⟩:=ZaX hT d1
 simp only[Z2H]
 refine Zfh hnm w2 x1 x2 (by omega) ?_
 rw[x3]
 have hl:isW true (Z0Z T (Z03 T s [40]))=true:=w1
 have ho:decide (1<=(Z0a T (Z03 T (Z3J T n (Z0e T (Z03 T s [40]))).2 [44]) ordL 1).1/\(Z0a T (Z03 T (Z3J T n (Z0e T (Z03 T s [40]))).2 [44]) ordL 1).1<=6)=true:=by simpa using ⟨o1,o2⟩
 have e1:decide (1<=k/\k<=11)=true:=by rcases hk with ⟨rfl,-⟩|⟨rfl,-⟩|⟨rfl,-⟩|⟨rfl,-⟩|⟨rfl,-⟩<;>rfl
 have e2:Zhj k=true:=by rcases hk with ⟨rfl,-⟩|⟨rfl,-⟩|⟨rfl,-⟩|⟨rfl,-⟩|⟨rfl,-⟩<;>rfl
 have e3:ZfZ k=true:=by rcases hk with ⟨rfl,-⟩|⟨rfl,-⟩|⟨rfl,-⟩|⟨rfl,-⟩|⟨rfl,-⟩<;>rfl
 have e4:decide (n=ZlR k)=true:=by rcases hk with ⟨rfl,rfl⟩|⟨rfl,rfl⟩|⟨rfl,rfl⟩|⟨rfl,rfl⟩|⟨rfl,rfl⟩<;>rfl
 unfold Z8g
 rw[e1,hw,e2,hl,e3,if_pos rfl,ho,e4]
 simp
theorem FitA.of{T:List Tq}{s s1 s2:Ps}{x:St}(h1:Fit T s 1 0 0 s1)(h2:Fit T s1 (Z12 x-1) 0 0 s2)(hk:x.kind≠10/\x.kind≠11)(h3:s2.err=0->s2.i<T.length->VS x):FitA T s x s2 :=
 ⟨(h1.trans h2).to (by omega) rfl rfl,hk,h3⟩
theorem Zow{T:List Tq}(s:Ps):Fit T s (Z12 (Zdf T s).1-1) 0 0 (Zdf T s).2/\((Zdf T s).2.err=0->(Zdf T s).2.i<T.length->VS (Zdf T s).1):=by
 have t1:=Z1t (T:=T) s (w:=[40]) rfl
 have t2:=ZcO (T:=T) (Z03 T s [40])
 have t3:=Z1t (T:=T) (Z0a T (Z03 T s [40]) ordL 1).2 (w:=[41]) rfl
 refine⟨Fit.to ((t1.trans t2.1).trans t3) (by simp only[Zdf,Z12,sizeSL,sizeL];omega) rfl rfl,λe1 e2=>?_⟩
 obtain⟨a1,a2⟩:=t3.back e1 e2
 obtain⟨o1,o2⟩:=t2.2 a1
 have ho:decide (1<=(Z0a T (Z03 T s [40]) ordL 1).1/\(Z0a T (Z03 T s [40]) ordL 1).1<=6)=true:=by simpa using ⟨o1,o2⟩
 simp only[Zdf]
 refine Zfh (by decide) (by decide) trivial rfl (by decide) ?_
 unfold Z8g
 rw[show ZfZ 7=true from rfl,if_pos rfl,ho];rfl
theorem Zkf{T:List Tq}(hT:TqW T)(s:Ps){k:Int}(hk:k=8\/k=9):Fit T s (Z12 (Zci T k s).1-1) 0 0 (Zci T k s).2/\((Zci T k s).2.err=0->(Zci T k s).2.i<T.length->VS (Zci T k s).1):=by
 have t1:=ZeY hT s
 refine⟨Fit.to t1.1 (by simp only[Zci,Z12,sizeSL,sizeL];omega) rfl rfl,λe1 e2=>?_⟩
 obtain⟨a1,a2⟩:=t1.2 e1 e2
 simp only[Zci]
 refine Zfh (by decide) (by decide) (by simp only[okL];exact⟨a1,trivial⟩) (by simp only[rightL,a2];rfl) (by show 1<=2;decide) ?_
 rcases hk with rfl|rfl<;>rfl
theorem ZhQ{T:List Tq}(hT:TqW T)(s:Ps){nm:List UInt8}(hn:nm.length<=9223372036854775807):Fit T s (Z12 (Z3D T nm s).1-1) 0 0 (Z3D T nm s).2/\((Z3D T nm s).1.kind≠10/\(Z3D T nm s).1.kind≠11)/\((Z3D T nm s).2.err=0->(Z3D T nm s).2.i<T.length->Z1A nm=true->VS (Z3D T nm s).1):=by
 unfold Z3D
 split
 · rename_i h
   obtain⟨a1,a2,a3⟩:=Z9S hT (Z02 s) (nm:=nm) (k:=2) (n:=0) (by decide) (by decide) hn
   exact⟨((Z1K h (by decide) (by decide) (by decide)).trans a1).to (by omega) rfl rfl,a2,λe1 e2 hw=>a3 e1 e2 hw⟩
 split
 · rename_i h
   obtain⟨a1,a2,a3⟩:=Z9S hT (Z02 s) (nm:=nm) (k:=4) (n:=2) (by decide) (by decide) hn
   exact⟨((Z1K h (by decide) (by decide) (by decide)).trans a1).to (by omega) rfl rfl,a2,λe1 e2 hw=>a3 e1 e2 hw⟩
 split
 · rename_i h
   obtain⟨a1,a2,a3⟩:=Z9S hT (Z02 s) (nm:=nm) (k:=5) (n:=1) (by decide) (by decide) hn
   exact⟨((Z1K h (by decide) (by decide) (by decide)).trans a1).to (by omega) rfl rfl,a2,λe1 e2 hw=>a3 e1 e2 hw⟩
 split
 · rename_i h
   obtain⟨a1,a2,a3⟩:=Z9S hT (Z02 s) (nm:=nm) (k:=6) (n:=1) (by decide) (by decide) hn
   exact⟨((Z1K h (by decide) (by decide) (by decide)).trans a1).to (by omega) rfl rfl,a2,λe1 e2 hw=>a3 e1 e2 hw⟩
 · have t1:=Z6L hT s
   refine⟨Fit.to t1.1 (by simp only[Z12,sizeSL,sizeL];omega) rfl rfl,by simp only[St.kind];decide,λe1 e2 hw=>?_⟩
   obtain⟨a1,a2⟩:=t1.2 e1 e2
   refine Zfh hn (by decide) (by simp only[okL];exact⟨a1,trivial⟩) (by simp only[rightL,a2];rfl) (by show 1<=2;decide) ?_
   unfold Z8g
   rw[show isW (Zey 1) nm=true from hw]
   rfl
theorem Zle{T:List Tq}(hT:TqW T)(s:Ps):FitA T s (Z1w T s).1 (Z1w T s).2:=by
 unfold Z1w
 split
 · rename_i h
   obtain⟨a1,a2,a3⟩:=Z9S hT (Z02 s) (nm:=[]) (k:=3) (n:=1) (by decide) (by decide) (by decide)
   exact FitA.of (Z1K h (by decide) (by decide) (by decide)) a1 a2 λe1 e2=>a3 e1 e2 rfl
 split
 · rename_i h
   obtain⟨a1,a3⟩:=Zow (T:=T) (Z02 s)
   exact FitA.of (Z1K h (by decide) (by decide) (by decide)) a1 (by simp only[Zdf,St.kind];decide) a3
 split
 · rename_i h
   obtain⟨a1,a3⟩:=Zkf hT (Z02 s) (.inl rfl)
   exact FitA.of (Z1K h (by decide) (by decide) (by decide)) a1 (by simp only[Zci,St.kind];decide) a3
 split
 · rename_i h
   obtain⟨a1,a3⟩:=Zkf hT (Z02 s) (.inr rfl)
   exact FitA.of (Z1K h (by decide) (by decide) (by decide)) a1 (by simp only[Zci,St.kind];decide) a3
 · have t1:=ZaY (T:=T) s
   have t2:=t1.need (w:=[61]) rfl
   by_cases he:(Z0e T s).err=0
   · obtain⟨w1,w2⟩:=ZaX hT he
     obtain⟨a1,a2,a3⟩:=ZhQ hT (Z03 T (Z0e T s) [61]) w2
     exact⟨(t2.trans a1).to (by omega) rfl rfl,a2,λe1 e2=>a3 e1 e2 w1⟩
   · have hw : Z0Z T s = [] := by
      unfold Z0Z
      rw[if_neg]
      intro hh
      apply he
      unfold Z0e
      rw[if_pos hh]
      unfold Z1Q at hh
      simp only[Y07,beq_iff_eq]at hh
      exact hh.1
     rw[hw]
     obtain⟨a1,a2,a3⟩:=ZhQ hT (Z03 T (Z0e T s) [61]) (nm:=[]) (by decide)
     refine⟨(t2.trans a1).to (by omega) rfl rfl,a2,λe1 e2=>?_⟩
     obtain⟨b1,b2⟩:=a1.back e1 e2
     obtain⟨c1,c2⟩:=(Z1t (T:=T) (Z0e T s) (w:=[61]) rfl).back b1 b2
     exact absurd c1 he
theorem Zbd{T:List Tq}{i0:Nat}{stm:Ps->St×Ps}(hstm:∀s,i0<=s.i->Zpk T s (stm s).1 (stm s).2)(w:List UInt8):∀(k:Nat)(s:Ps),i0<=s.i->ZhC T s (Z20 T stm w k s).1 (Z20 T stm w k s).2
 |0,s,h=>⟨Fit.refl s,λ_ _=>⟨trivial,rfl⟩⟩
 |k+1,s,h=>by
  unfold Z20
  split
  · have t1:=hstm s h
    have t2:=Zbd hstm w k (stm s).2 (Y0i h t1.1.1)
    refine⟨Fit.to (t1.1.trans t2.1) (by simp only[sizeSL];omega) (by simp only[semSL]) (by omega),λe1 e2=>?_⟩
    obtain⟨a1,a2⟩:=t2.2 e1 e2
    obtain⟨b1,b2⟩:=t2.1.back e1 e2
    obtain⟨c1,c2⟩:=t1.2 b1 b2
    refine⟨?_,?_⟩
    ·simp only[okSL];exact⟨c1,a1⟩
    ·simp only[rightSL,c2,a2];rfl
  ·exact⟨Fit.refl s,λ_ _=>⟨trivial,rfl⟩⟩
theorem Zkd{T:List Tq}{i0:Nat}{stm:Ps->St×Ps}(hstm:∀s,i0<=s.i->Zpk T s (stm s).1 (stm s).2)(s:Ps)(h:i0<=s.i):ZhC T s (Z9M T stm s).1 (Z9M T stm s).2:=by
 have t1:=Z1t (T:=T) s (w:=[123]) rfl
 have t2:=Zbd hstm [125] (T.length+1) (Z03 T s [123]) (Y0i h t1.1)
 have t3:=Z1t (T:=T) (Z20 T stm [125] (T.length+1) (Z03 T s [123])).2 (w:=[125]) rfl
 refine⟨Fit.to ((t1.trans t2.1).trans t3) (by simp only[Z9M];omega) (by simp only[Z9M];show 0+_+0=_;omega) rfl,λe1 e2=>?_⟩
 obtain⟨a1,a2⟩:=t3.back e1 e2
 exact t2.2 a1 a2
theorem ZmJ{T:List Tq}(hT:TqW T){k:Int}{x:Ex}{t e:List St}{j:Nat}(hx:VE x)(ht:okSL t/\rightSL t=true)(he:okSL e/\rightSL e=true)(hk:k=10\/k=11/\e=[])(h1:sizeSL t+sizeSL e<=j)(hj:j<T.length):VS (.mk k [] [] 0 [x] t e):=by
 have l1:=Z5v t
 have l2:=Z5v e
 have l3:=hT.few
 refine⟨?_,?_⟩
 ·simp only[okS,okN,okL];exact⟨⟨by decide,by show 1<=_;decide⟩,⟨by decide,by omega⟩,by omega,⟨hx.1,trivial⟩,ht.1,he.1⟩
 · simp only[Z4v,rightL,hx.2,ht.2,he.2,Y0m,ZmR,St.kind,St.name,St.loc,St.order,St.exprs,St.thn,St.els]
   rcases hk with rfl|⟨rfl,rfl⟩
   ·rfl
   ·rfl
theorem ZoL{T:List Tq}{i0:Nat}{blk:Ps->List St×Ps}{stm:Ps->St×Ps}(hblk:∀s,i0<=s.i->ZhC T s (blk s).1 (blk s).2)(hstm:∀s,i0<=s.i->Zpk T s (stm s).1 (stm s).2)(s:Ps)(h:i0<=s.i):ZhC T s (Z9Z T blk stm s).1 (Z9Z T blk stm s).2:=by
 unfold Z9Z
 split
 · rename_i h1
   have t1:=Z1K h1 (by decide) (by decide) (by decide)
   have h2:i0<=(Z02 s).i:=Y0i h t1.1
   split
   · have t2:=hstm (Z02 s) h2
     refine⟨Fit.to (t1.trans t2.1) (by simp only[sizeSL];omega) (by simp only[semSL];omega) rfl,λe1 e2=>?_⟩
     obtain⟨a1,a2⟩:=t2.2 e1 e2
     refine⟨?_,?_⟩
     ·simp only[okSL];exact⟨a1,trivial⟩
     ·simp only[rightSL,a2];rfl
   · have t2:=hblk (Z02 s) h2
     exact⟨(t1.trans t2.1).to (by omega) (by omega) rfl,t2.2⟩
 ·exact⟨Fit.refl s,λ_ _=>⟨trivial,rfl⟩⟩
theorem Zlb{T:List Tq}(hT:TqW T){blk:Ps->List St×Ps}{stm:Ps->St×Ps}(s:Ps)(hblk:∀t,s.i+1<=t.i->ZhC T t (blk t).1 (blk t).2)(hstm:∀t,s.i+1<=t.i->Zpk T t (stm t).1 (stm t).2):Zpk T s (Z3n T blk stm s).1 (Z3n T blk stm s).2:=by
 unfold Z3n
 split
 · rename_i h
   have t1:=Z1K h (by decide) (by decide) (by decide)
   have t2:=ZeY hT (Z02 s)
   have h2:s.i+1<=(Z28 T (Z02 s)).2.i:=t2.1.1
   have t3:=hblk _ h2
   have t4:=ZoL hblk hstm _ (Y0i h2 t3.1.1)
   have t5:=((t1.trans t2.1).trans t3.1).trans t4.1
   refine⟨Fit.to t5 (by simp only[Zch,Z12,sizeL];omega) (by simp only[Zch,Zpn];show 0+0+_+_=_+_;omega) rfl,λe1 e2=>?_⟩
   obtain⟨a1,a2⟩:=t4.1.back e1 e2
   obtain⟨b1,b2⟩:=t3.1.back a1 a2
   have hz:=(t5.2 e1 e2).2.1
   simp only[Zch]at e2 hz⊢
   exact ZmJ hT (t2.2 b1 b2) (t3.2 a1 a2) (t4.2 e1 e2) (.inl rfl) (j:=(Z9Z T blk stm (blk (Z28 T (Z02 s)).2).2).2.i) (by omega) e2
 split
 · rename_i h
   have t1:=Z1K h (by decide) (by decide) (by decide)
   have t2:=ZeY hT (Z02 s)
   have h2:s.i+1<=(Z28 T (Z02 s)).2.i:=t2.1.1
   have t3:=hblk _ h2
   have t5:=(t1.trans t2.1).trans t3.1
   refine⟨Fit.to t5 (by simp only[Zl2,Z12,sizeL,sizeSL];omega) (by simp only[Zl2,Zpn,semSL];show 0+0+_=_+0;omega) rfl,λe1 e2=>?_⟩
   obtain⟨b1,b2⟩:=t3.1.back e1 e2
   have hz:=(t5.2 e1 e2).2.1
   simp only[Zl2]at e2 hz⊢
   exact ZmJ hT (t2.2 b1 b2) (t3.2 e1 e2) ⟨trivial,rfl⟩ (.inr ⟨rfl,rfl⟩) (j:=(blk (Z28 T (Z02 s)).2).2.i) (by simp only[sizeSL];omega) e2
 · have t1:=Zle hT s
   have t2:=t1.1.need (w:=[59]) rfl
   refine⟨Fit.to (z':=Z12 (Z1w T s).1) t2 (by omega) ?_ rfl,λe1 e2=>?_⟩
   · show 0+1=Zpn (Z1w T s).1
     obtain⟨h1,h2⟩:=t1.2.1
     generalize (Z1w T s).1=x at h1 h2
     obtain⟨k,n,l,o,x,t,e⟩:=x
     simp only[St.kind]at h1 h2
     simp only[Zpn]
     rw[if_neg (by simp[h1,h2])]
   · obtain⟨a1,a2⟩:=(Z1t (T:=T) (Z1w T s).2 (w:=[59]) rfl).back e1 e2
     exact t1.2.2 a1 a2
theorem Zbf{T:List Tq}(hT:TqW T):∀(d:Nat)(s:Ps),T.length<=s.i+d->Zpk T s (Z5R T d s).1 (Z5R T d s).2
 |0,s,h=>⟨⟨Y01 _,λ_ h2=>absurd h2 (by show ¬s.i<_;omega)⟩,λ_ h2=>absurd h2 (by show ¬s.i<_;omega)⟩
 |d+1,s,h=>Zlb hT s (λt ht=>Zkd (i0:=s.i+1) (λu hu=>Zbf hT d u (by omega)) t ht) (λt ht=>Zbf hT d t (by omega))
theorem Zbe{T:List Tq}(hT:TqW T)(s:Ps):Zpk T s (Z1D T s).1 (Z1D T s).2:=Zbf hT T.length s (by omega)
theorem Zmy{T:List Tq}(hT:TqW T)(s:Ps):ZhC T s (Z6a T s).1 (Z6a T s).2:=Zkd (i0:=0) (λu _=>Zbe hT u) s (Y05 _)
end
section
def dOK(d:Dc):Prop:=(Z1A d.name=true/\d.name.length<=9223372036854775807)/\0<=d.val
theorem ZoU{T:List Tq}(hT:TqW T)(pl:Bool)(s:Ps):Fit T s 1 0 0 (Z5B T pl s).2/\((Z5B T pl s).2.err=0->(Z5B T pl s).2.i<T.length->dOK (Z5B T pl s).1):=by
 have t1:=ZaY (T:=T) s
 unfold Z5B
 split
 · rename_i h1
   have t2:=Z1K h1 (by decide) (by decide) (by decide)
   have he:(Z0e T s).err=0:=by
    unfold isF at h1
    simp only[Y07,beq_iff_eq]at h1
    exact h1.1
   split
   · rename_i h2
     have t3:Fit T (Z02 (Z0e T s)) 1 0 0 (Z02 (Z02 (Z0e T s))):=Fit.atom he (.inr h2) rfl
     exact⟨((t1.trans t2).trans t3).to (by omega) rfl rfl,λ_ _=>⟨ZaX hT he,Zi2 hT (Z6z ▸ h2)⟩⟩
   ·exact⟨Fit.fail (Y0i t1.1 t2.1) (by decide),λh=>absurd h (Z1H (by decide))⟩
 ·exact⟨t1,λe1 _=>⟨ZaX hT e1,Int.le_refl _⟩⟩
theorem ZjY{T:List Tq}(hT:TqW T)(pl:Bool):∀(k:Nat)(s:Ps),Fit T s (Z3N T pl k s).1.length 0 0 (Z3N T pl k s).2/\((Z3N T pl k s).2.err=0->(Z3N T pl k s).2.i<T.length->∀d∈(Z3N T pl k s).1,dOK d)
 |0,s=>⟨Fit.refl s,λ_ _ d hd=>by cases hd⟩
 |k+1,s=>by
  obtain⟨t1,v1⟩:=ZoU hT pl s
  unfold Z3N
  split
  · rename_i h1
    have t2:=Z1K h1 (by decide) (by decide) (by decide)
    obtain⟨t3,v3⟩:=ZjY hT pl k (Z02 (Z5B T pl s).2)
    refine⟨Fit.to ((t1.trans t2).trans t3) (by simp only[Y09];omega) rfl rfl,λe1 e2 d hd=>?_⟩
    obtain⟨a1,a2⟩:=t3.back e1 e2
    obtain⟨b1,b2⟩:=t2.back a1 a2
    rcases Y0n.1 hd with rfl|hd
    ·exact v1 b1 b2
    ·exact v3 e1 e2 d hd
  ·exact⟨t1,λe1 e2 d hd=>by rw[Y0u.1 hd];exact v1 e1 e2⟩
theorem Zmn{T:List Tq}(hT:TqW T)(pl:Bool)(s:Ps):Fit T s (Z0E T pl s).1.length 1 0 (Z0E T pl s).2/\((Z0E T pl s).2.err=0->(Z0E T pl s).2.i<T.length->∀d∈(Z0E T pl s).1,dOK d):=by
 obtain⟨t1,v1⟩:=ZjY hT pl (T.length+1) s
 have t2:=Z1t (T:=T) (Z3N T pl (T.length+1) s).2 (w:=[59]) rfl
 refine⟨Fit.to (z':=(Z3N T pl (T.length+1) s).1.length) (t1.trans t2) (by omega) rfl rfl,λe1 e2=>?_⟩
 obtain⟨a1,a2⟩:=t2.back e1 e2
 exact v1 a1 a2
theorem Zfn{T:List Tq}{s:Ps}{w:List UInt8}(h:isF T s w=true)(hw:ZhW w=1/\Zio w=0/\Zgu w=0):mU T (s.i+1)=mU T s.i/\bU T (s.i+1)=bU T s.i/\tU T (s.i+1)=tU T s.i+1:=by
 unfold isF at h
 simp only[Y07,beq_iff_eq]at h
 obtain⟨h2,h3,h4⟩:=h
 rw[Z6z]at h3 h4
 have h5:ZmM T s.i=true:=h3
 simp only[mU,bU,tU,h5,if_true,h4,hw.1,hw.2.1,hw.2.2]
 simp
def ZqA(T:List Tq)(i:Nat):Prop:=ZmM T i=true/\((Ze7 T i).text=[59]\/(Ze7 T i).text=[125])
theorem ZlF{T:List Tq}{s:Ps}{w:List UInt8}(h:(Z03 T s w).err=0):isF T s w=true/\(Z03 T s w).i=s.i+1:=by
 unfold Z03 at h⊢
 split at h
 · rename_i h1
   rw[if_pos h1]
   unfold Z0L at h1
   simp only[Y07,Y0E]at h1
   refine⟨h1.1,?_⟩
   unfold Z0l
   rw[if_pos h1.1,if_neg (by rintro⟨a,b⟩;have:=h1.2;simp[a,b]at this)]
 ·exact absurd h (Z1H (by decide))
theorem Zar{T:List Tq}{s:Ps}{w:List UInt8}(h:(Z03 T s w).err=0)(hw:w=[59]\/w=[125]):0<(Z03 T s w).i/\ZqA T ((Z03 T s w).i-1):=by
 obtain⟨h1,h2⟩:=ZlF h
 unfold isF at h1
 simp only[Y07,beq_iff_eq]at h1
 obtain⟨-,h3,h4⟩:=h1
 rw[Z6z]at h3 h4
 rw[h2]
 exact⟨Nat.succ_pos _,h3,by rw[Nat.add_sub_cancel,h4];exact hw⟩
def ZgS:List (List St)->Nat
 |[]=>0
 |t::l=>semSL t+ZgS l
theorem Zah:∀(l:List (List St))(t:List St),ZgS (l++[t])=ZgS l+semSL t
 |[],t=>by simp[ZgS]
 |a::l,t=>by simp only[Y0r,ZgS,Zah l t];omega
theorem Z5U:∀(l:List (List St))(t:List St),Z0H (l++[t])=Z0H l+sizeSL t
 |[],t=>by simp[Z0H]
 |a::l,t=>by simp only[Y0r,Z0H,Z5U l t];omega
def tOK(T:List Tq)(t:List St):Prop:=(okSL t/\rightSL t=true)/\t.length<=T.length
structure PrF (T:List Tq) (ds:List Dc) (ts:List (List St)) (s:Ps):Prop where
 size:Z0H ts+(ds.length+ts.length)<=s.i
 dok:∀d∈ds,dOK d
 tok:∀t∈ts,tOK T t
 sem:mU T s.i+ts.length=ZgS ts+tU T s.i
 brc:bU T s.i=0
 last:0<s.i->ZqA T (s.i-1)
 at0:s.at_=0
 op0:s.op=0
def PrW(T:List Tq)(ds:List Dc)(ts:List (List St))(s:Ps):Prop:=s.err=0->s.i<T.length->PrF T ds ts s
theorem Z6r{T:List Tq}(hT:TqW T):∀(k:Nat)(ds:List Dc)(ts:List (List St))(s:Ps),PrW T ds ts s->PrW T (Z1k T k ds ts s).1.1 (Z1k T k ds ts s).1.2 (Z1k T k ds ts s).2
 |0,ds,ts,s,h=>h
 |k+1,ds,ts,s,h=>by
  unfold Z1k
  split
  · rename_i hs
    have decl:∀(pl:Bool)(w:List UInt8),isF T s w=true->ZhW w=1/\Zio w=0/\Zgu w=0->PrW T (ds++(Z0E T pl (Z02 s)).1) ts (Z0E T pl (Z02 s)).2:=by
     intro pl w hw hw2 e1 e2
     obtain⟨u1,u2,u3⟩:=Zfn hw hw2
     obtain⟨t1,v1⟩:=Zmn hT pl (Z02 s)
     obtain⟨-,a2,a3,a4,a5,a6,a7⟩:=t1.2 e1 e2
     have hi:(Z02 s).i=s.i+1:=rfl
     rw[hi]at a2 a3 a4 a5
     have p:=h hs.1 (by omega)
     have hl:=Zar (T:=T) (s:=(Z3N T pl (T.length+1) (Z02 s)).2) (w:=[59]) e1 (.inl rfl)
     refine⟨?_,?_,p.tok,?_,?_,λ_=>hl.2,a6.trans p.at0,a7.trans (by show s.op+0=0;rw[p.op0];rfl)⟩
     ·have:=p.size;rw[Y0l];omega
     · intro d hd
       rcases Y0t.1 hd with hd|hd
       ·exact p.dok d hd
       ·exact v1 e1 e2 d hd
     ·have:=p.sem;omega
     ·have:=p.brc;omega
    split
    · rename_i h1
      exact Z6r hT k _ _ _ (decl false _ h1 (by decide))
    split
    · rename_i h1
      exact Z6r hT k _ _ _ (decl true _ h1 (by decide))
    split
    · rename_i h1
      refine Z6r hT k _ _ _ λe1 e2=>?_
      obtain⟨u1,u2,u3⟩:=Zfn h1 (by decide)
      obtain⟨t1,v1⟩:=Zmy hT (Z02 s)
      obtain⟨-,a2,a3,a4,a5,a6,a7⟩:=t1.2 e1 e2
      have hi:(Z02 s).i=s.i+1:=rfl
      rw[hi]at a2 a3 a4 a5
      have p:=h hs.1 (by omega)
      have hl:=Zar (T:=T) (s:=(Z20 T (Z1D T) [125] (T.length+1) (Z03 T (Z02 s) [123])).2) (w:=[125]) e1 (.inr rfl)
      have l1:=Z5v (Z6a T (Z02 s)).1
      refine⟨?_,p.dok,?_,?_,?_,λ_=>hl.2,a6.trans p.at0,a7.trans (by show s.op+0=0;rw[p.op0];rfl)⟩
      ·have:=p.size;rw[Z5U,Y0l];simp only[Y0F];omega
      · intro t ht
        rcases Y0t.1 ht with ht|ht
        ·exact p.tok t ht
        ·rw[Y0u.1 ht];exact⟨v1 e1 e2,by omega⟩
      ·have:=p.sem;rw[Zah,Y0l];simp only[Y0F];omega
      ·have:=p.brc;omega
    ·exact Z6r hT k _ _ _ λe1=>absurd e1 (Z1H (by decide))
  ·exact h
theorem ZfJ{T:List Tq}(hT:TqW T)(k:Nat):PrW T (Z1k T k [] [] ⟨0,0,0,0⟩).1.1 (Z1k T k [] [] ⟨0,0,0,0⟩).1.2 (Z1k T k [] [] ⟨0,0,0,0⟩).2 :=
 Z6r hT k [] [] ⟨0,0,0,0⟩ λ_ _=>⟨Y01 _,(λd hd=>by cases hd),(λt ht=>by cases ht),rfl,rfl,λh=>absurd h (Nat.lt_irrefl _),rfl,rfl⟩
end
section
theorem Zi1{t:Tk}(h:Zs3 t)(hk:t.kind=1):Z1A t.text=true:=by
 obtain⟨h1,c,v,h2,-⟩:=h
 rw[hk]at h1
 unfold Z4c at h1
 split at h1
 · rename_i hw
   simp only[Option.some.injEq,Prod.mk.injEq]at h1
   obtain⟨e1,e2,-⟩:=h1
   have h3:t.text.take (Z0j t.text)=t.text:=by rw[e2,Y0o]
   rw[h3]at e1
   have h4:keysL.contains t.text=false:=by
    cases hq:keysL.contains t.text with
    |false=>rfl
    |true=>rw[hq]at e1;simp at e1
   unfold Z1A
   rw[h4,e2,h2]
   simp
 · split at h1
   ·simp at h1
   ·split at h1<;>simp at h1
theorem Zfo{l:List Tk}{n i:Nat}(h:i<(Z72 l n).length):∃t∈l++[(⟨5,[],0,n⟩:Tk)],(Z72 l n)[i]=t.q:=by
 unfold Z72 at h⊢
 exact⟨(l++[(⟨5,[],0,n⟩:Tk)])[i]'(by simpa using h),List.getElem_mem _,List.getElem_map ..⟩
theorem ZiW:∀(n pos:Nat)(s:List UInt8)(l:List Tk),Z9Y n pos s = .inr l->∀t∈l,t.text.length<=s.length
 |0,pos,s,l,h=>by cases h;intro t ht;cases ht
 |n+1,pos,s,l,h=>by
  unfold Z9Y at h
  split at h
  ·cases h;intro t ht;cases ht
  · split at h
    ·cases h
    · rename_i kd len num hk
      split at h
      ·cases h
      · rename_i l2 h2
        cases h
        intro t ht
        cases ht with
        |head=>simp only[Y0k];omega
        |tail _ ht=>have:=ZiW n _ _ _ h2 t ht;simp only[Y0y]at this;omega
theorem Zcu{s:List UInt8}{l:List Tk}(h:Z6D s = .inr l)(hs:s.length<=65536)(n:Nat):TqW (Z72 l n):=by
 have h1:=ZiX _ _ _ _ h
 have h0:=ZiW _ _ _ _ h
 have h2:∀t∈l++[(⟨5,[],0,n⟩:Tk)],t.kind=1->Z1A t.text=true/\t.text.length<=9223372036854775807:=by
  intro t ht hk
  rcases Y0t.1 ht with ht|ht
  · have:=h0 t ht
    simp only[Y0y]at this
    exact⟨Zi1 (h1 t ht) hk,by omega⟩
  · have e:=Y0u.1 ht
    rw[e]at hk
    exact absurd hk (show ¬(5:Nat)=1 by decide)
 refine⟨λi h hk=>?_,λi h hk=>?_,?_⟩
 · obtain⟨t,ht,e⟩:=Zfo h
   rw[e]at hk⊢
   exact h2 t ht (by have:((t.kind:Nat):Int)=1:=hk;omega)
 · obtain⟨t,ht,e⟩:=Zfo h
   rw[e]
   show (0:Int)<=((t.num:Nat):Int)
   omega
 · have:=Zbw _ _ _ _ h
   have:=Zb6 l n
   omega
end
section
variable {gl:Z0k}
theorem Z3p{T:List Tq}:∀(k:Nat)(ds:List Dc)(ts:List (List St))(s:Ps),PsOK T s->PsOK T (Z1k T k ds ts s).2
 |0,ds,ts,s,h=>h
 |k+1,ds,ts,s,h=>by
  unfold Z1k
  split
  · split
    ·rename_i h1;exact Z3p k _ _ _ (Z6Q false (Z0b h h1).ok).ok
    split
    ·rename_i h1;exact Z3p k _ _ _ (Z6Q true (Z0b h h1).ok).ok
    split
    ·rename_i h1;exact Z3p k _ _ _ (ZbX (gl:=λ_=>none) T _ (Z0b h h1).ok (Y05 _)).1.ok
    ·exact Z3p k _ _ _ (Z5z h _ _).ok
  ·exact h
theorem Zlo {txt : List UInt8} {c : Nat} {pc : List AV} {ty : TypeId} {e a : Int} (he : e ≠ 0) (hpr : refsL pc [] = []) (hA : ValOK Y00 gl 53 [.str txt] (.tuple [.nslice, .agg [.int .i64 e, .int .i64 a]])) :
  MemQ Y00 gl 1 26 [.str txt,.func (.func c) [] [.ptr 0 0]] [⟨true,0,0,.cells pc ty⟩] (.agg [.int .i64 e,.int .i64 a]) [⟨true,0,0,.cells pc ty⟩]:=by
 obtain⟨OA,hOA,-,⟨pA,-⟩⟩:=Z25 (P:=Y00) (gl:=gl) [] [Z2X (by kernel_rfl) rfl hA] rfl
 have qA:∀H,Z06 Y00 OA H 53 [.str txt]=some (.tuple [.nslice,.agg [.int .i64 e,.int .i64 a]],H):=λH=>pA () trivial H
 have e1:(e==0)=false:=by simpa using he
 have e2:(e != 0)=true:=by simpa using he
 refine Z1c ZkS 3 follows Z05 hOA Tryz.func26 rfl ?_
 repeat' ((conv=>whnf);first|refine exI (qA _) ?_|refine stp ?_|with_reducible apply Z01<;>intro h)
 all_goals (try (conv=>whnf))
 all_goals exact⟨[0],rfl,⟨⟨rfl,rfl,rfl,rfl,Y0e (rest:=[]) (Y0c pc).symm hpr⟩,trivial⟩,rfl,Y04 rfl⟩
def Z1a(s:List UInt8)(run:List Tq->Ps):Int×Int:=match Z6D s with
 | .inl e=>(4,(e:Nat))
 | .inr l=>((Z2x (Z72 l s.length) (run (Z72 l s.length))).err,(Z2x (Z72 l s.length) (run (Z72 l s.length))).at_)
def Z0C(s:List UInt8):List Tq:=match Z6D s with
 | .inl _=>[]
 | .inr l=>Z72 l s.length
theorem Zbm {s : List UInt8} (hs : s.length <= 65536) {run : List Tq -> Ps} {c : Nat} {pc : List AV} {pcF : List Tq -> List AV} {ty : TypeId} (hcb : Z0m Y00 c = true) (hcn : Z0U [c, 56] = true) (hpr : refsL pc [] = []) (hpn : ∀ g, renL g pc = pc) (hpr' : ∀ T, refsL (pcF T) [] = []) (hren : ∀ T g, renL g (pcF T) = pcF T)
  (hC:∀T,TqOK T->TqW T->PsOK T s0->MemX Y00 runLives.gl (XF (run T)) c [.ptr 0 0,.ptr 11 0] (gB T s0++[⟨true,11,0,.cells pc ty⟩]) (.tuple []) (gB T (run T)++[⟨true,11,0,.cells (pcF T) ty⟩])) (hE:∀T,TqW T->PsOK T s0->(run T).err=0->PsOK T (run T)/\(run T).at_=0) :
  ∃al cs ty',MemQ Y00 runLives.gl 1 26 [.str s,.func (.func c) [] [.ptr 0 0]] [⟨true,0,0,.cells pc ty⟩] (.agg [.int .i64 (Z1a s run).1,.int .i64 (Z1a s run).2]) [⟨al,0,0,.cells cs ty'⟩]/\(refsL cs []=[]/\∀g,renL g cs=cs)/\((Z1a s run).1=0->al=true/\cs=pcF (Z0C s)/\ty'=ty):=by
 have hA:=pg.all_ok s hs
 unfold Z1a Z0C
 cases hl:Z6D s with
 |inl e =>
  have h1:Zck s = .tuple [.nslice,.agg [.int .i64 4,.int .i64 (e:Nat)]]:=by unfold Zck;rw[if_neg (by omega),hl]
  rw[h1]at hA
  exact⟨_,_,_,Zlo (show (4:Int)≠0 by decide) hpr hA,⟨hpr,hpn⟩,λh=>absurd h (show ¬(4:Int)=0 by decide)⟩
 |inr l =>
  rw[ZhX hl hs]at hA
  have hT:=ZmK hl s.length
  have hW:=Zcu hl hs s.length
  have hP:=Zcv hl hs
  have hR:=ZnR (by rw[Zb6];omega) hcb hcn hpr (hpr' _) (hren _) hA (hC _ hT hW hP) (hE _ hW hP)
  unfold rdE rdR at hR
  cases hz:(Z2x (Z72 l s.length) (run (Z72 l s.length))).err==0 with
  |true =>
   rw[hz]at hR
   exact⟨true,pcF (Z72 l s.length),ty,hR,⟨hpr' _,hren _⟩,λ_=>⟨rfl,rfl,rfl⟩⟩
  |false =>
   rw[hz]at hR
   exact⟨false,[],0,hR,⟨rfl,λ_=>rfl⟩,λh=>absurd h (by simpa using hz)⟩
theorem Z8y {s : List UInt8} {c : Nat} {pc cs z : List AV} {ty ty' t0 t1 : TypeId} {al : Bool} {e a : Int} (h : MemQ Y00 gl 1 26 [.str s, .func (.func c) [] [.ptr 0 0]] [⟨true, 0, 0, .cells pc ty⟩] (.agg [.int .i64 e, .int .i64 a]) [⟨al, 0, 0, .cells cs ty'⟩])
  (hpr:refsL pc []=[]) (hcs:refsL cs []=[]/\∀g,renL g cs=cs) :
  Z1v Y00 gl 26 [.str s,.func (.func c) [] [.ptr 2 0]] [⟨true,0,0,.cells z t0⟩,⟨true,1,0,.cells [.int .i64 0,.int .i64 0] t1⟩,⟨true,2,0,.cells pc ty⟩] (.agg [.int .i64 e,.int .i64 a]) [⟨true,0,0,.cells z t0⟩,⟨true,1,0,.cells [.int .i64 0,.int .i64 0] t1⟩,⟨al,2,0,.cells cs ty'⟩]:=by
 have h1:=Z9i h rfl rfl (λb o1 o2 e1 e2=>by
  match b,e1,e2 with
  |0,e1,e2=>cases e1;cases e2;exact⟨rfl,rfl,λ_=>rfl⟩
  |b+1,e1,e2=>cases e1)
 have h2:=Z7k (m:=[2]) (Hc:=[⟨true,0,0,.cells z t0⟩,⟨true,1,0,.cells [.int .i64 0,.int .i64 0] t1⟩,⟨true,2,0,.cells pc ty⟩]) (cargs:=[.str s,.func (.func c) [] [.ptr 2 0]]) h1 (Wk.tuple ⟨Y04 rfl,Y06 trivial ⟨Y02 rfl rfl,trivial⟩,trivial⟩) ⟨⟨rfl,rfl,rfl,rfl,Y0e (rest:=[]) (Y0c pc).symm hpr⟩,trivial⟩ rfl rfl (by cases al<;>rfl) (λo ho=>by
  simp only[Y0n,Y0v,or_false]at ho
  rcases ho with rfl|rfl|rfl
  ·exact (show 0<3 by decide)
  ·exact (show 1<3 by decide)
  ·exact (show 2<3 by decide)) (λi o hi=>by
  match i,hi with
  |0,hi=>cases hi;show Z11 1 (refsL cs [])=true;rw[hcs.1];rfl
  |i+1,hi=>cases hi) rfl
 have e:renL (sgS [2] 3) cs=cs:=hcs.2 _
 rw[<- e]
 exact h2
end
section
def Z9o(n:Nat):Z00:=[⟨true,0,0,.cells [.func (.func 102) [] [.ptr 1 0]] 96⟩,⟨true,1,0,.cells [.int .i64 n] 3⟩]
theorem keep1_ok(cs:List AV)(d:Int)(n:Nat)(hn:n<=2000):Z1v Y00 runLives.gl 79 [.rp cs,.int .i64 d,.ptr 0 0] (Z9o n) (.bool (decide (((n+1:Nat):Int)<=2000)&&decide (d<=32))) (Z9o (n+1)):=by
 refine ZaB (k:=2) follows Z05 (Z09 follows Z05 Z13 3) rfl Tryz.func79 rfl (Z0f (isC:=λ_=>false) 3) ?_
 repeat' ((conv=>whnf);first|refine stp ?_|with_reducible apply Z01<;>intro h)
 all_goals (conv=>whnf)
 ·exact⟨by rw[h];rfl,rfl,rfl⟩
 ·exact⟨by rw[h];rfl,rfl,rfl⟩
theorem Zj4{n m:Nat}(h:Z9o n=Z9o m):n=m:=by
 simp only[Z9o,List.cons.injEq,AObj.mk.injEq,ABody.cells.injEq,AV.int.injEq,and_true,true_and]at h
 omega
theorem ZqK(e:Ex)(rest:List AV)(d:Int)(s:Nat)(h:s<=2000):Z1v Y00 runLives.gl 79 ([.rp (e.cells++rest),.int .i64 d]++[.ptr 0 0]) (Z9o s) (.bool (lex.cE e d s).1) (Z9o (lex.cE e d s).2) :=
 keep1_ok (e.cells++rest) d s h
theorem Zmu(e:Ex)(d:Int)(s:Nat)(h:0<=d/\d<=33/\s<=2000)(ht:(lex.cE e d s).1=true):0<=d+1/\d+1<=33/\(lex.cE e d s).2<=2000 :=
 have h2:s+1<=2000/\d+1<=33:=(ZbW d s).1.1 ht
 have h3:0<=d:=h.1
 ⟨by clear h ht h2;omega,h2.2,h2.1⟩
def ceV:TvE runLives.gl where
 σ:=Nat
 Mem:=Z9o
 k:=2
 len:=λ_=>rfl
 same:=λs=>⟨⟨⟨rfl,rfl,rfl,rfl,Y0a ⟨Y06 trivial ⟨Y02 rfl rfl,trivial⟩,trivial⟩⟩,hbp,trivial⟩,rfl,rfl⟩
 evo:=λ_ _=>rfl
 inj:=λ_ _ h=>Zj4 h
 I:=λd s m=>0<=d/\d<=33/\s<=2000
 up:=λd s m h0 h=>⟨h0,by have:=h.2.1;omega,h.2.2⟩
 less:=λd s m h=>h
 bnd:=λd s m h=>⟨h.1,by have:=h.2.1;omega⟩
 gE:=79
 cE:=[.ptr 0 0]
 hE:=lex.cE
 bodyE:=by kernel_rfl
 wkE:=⟨Y02 rfl rfl,trivial⟩
 okE:=λe rest d s m _ h=>by
  exact ZqK e rest d s h.2.2
 downE:=λe d s m h ht=>Zmu e d s h ht
def ceH(cs:List AV)(n:Nat):Z00:=[⟨true,0,0,.cells cs 47⟩,⟨true,1,0,.cells [.int .i64 n] 3⟩,⟨true,2,0,.cells cs 47⟩,⟨true,3,0,.cells [.func (.func 102) [] [.ptr 1 0]] 96⟩]
theorem Zp1(e:Ex)(hok:okE e):Z1v Y00 runLives.gl 78 [.slice 2 0 1 1 4,.int .i64 1,.func (.func 79) [] [.ptr 3 0]] (ceH e.cells 0) (.bool (goL cE [e] 1 0).1) (ceH e.cells (goL cE [e] 1 0).2):=by
 have hM:=TvE.exprs ceV follows (sizeL [e]) [e] 1 (0:Nat) 0 (Y01 _) (by simp only[okL];exact⟨hok,trivial⟩) (by simp) ⟨by omega,by omega,by omega⟩
 have hM:Z1v Y00 runLives.gl 78 [exA [e],.int .i64 1,.func (.func 79) [] [.ptr 0 0]] (Z9o 0) (.bool (goL cE [e] 1 0).1) (Z9o (goL cE [e] 1 0).2):=hM
 simp only[exA,exC,Y0c]at hM
 generalize hb:(goL cE [e] 1 0).1=b at *
 generalize hn:(goL cE [e] 1 0).2=n at *
 have h:=Z9j (m:=[3,1]) (n:=3) (Hc:=ceH e.cells 0) (cargs:=[.slice 2 0 1 1 4,.int .i64 1,.func (.func 79) [] [.ptr 3 0]]) hM ?_ ?_ rfl rfl rfl rfl rfl rfl
 · have e1:Zfj [3,1] (Z9o n) 0 (ceH e.cells 0)=ceH e.cells n:=rfl
   rw[e1]at h
   exact h
 · obtain⟨op,num,name,kids⟩:=e
   simp only[Ex.cells];rfl
 ·exact⟨⟨rfl,rfl,rfl,rfl,Y0a ⟨Y06 trivial ⟨Y02 rfl rfl,trivial⟩,trivial⟩⟩,hbp,trivial⟩
section
open Classical
noncomputable def ceF(cs:List AV)(r:Bool):Nat->List AV->Option AV:=λf a=>if f=78/\a=[.rs 1 4 cs,.int .i64 1,.func (.func 65) [] []] then some (.bool r) else none
end
theorem Zl1(e:Ex):((goL cE [e] 1 0).1=true ↔ ¬(2000<Z0A e\/32<Z4z e)):=by
 rw[(goL_c [e] 1 0 (by omega) (by omega)).1]
 simp only[sizeL,deepL];omega
theorem Zhr(e:Ex)(hok:okE e)(hs:Z0A e<=1048576):ValOK Y00 runLives.gl 38 [.agg e.cells] (.int .i64 (Z2V e)):=by
 have hI:=Zp1 e hok
 have hw:=Zl1 e
 have hr:ValOK Y00 runLives.gl 78 [.rs 1 4 e.cells,.int .i64 1,.func (.func 65) [] []] (.bool (Z14 e)):=by
  have h:=ZoD [e] 1 (by simp only[okL];exact⟨hok,trivial⟩) (by simp) (by omega) (by simp only[sizeL];omega)
  simpa only[exA,exC,Y0c,Y0F,rightL,Y0m]using h
 have hZ:=Z0J (P:=Y00) (gl:=runLives.gl) (F:=ceF e.cells (Z14 e)) λf args r h=>by
  unfold ceF at h
  split at h
  · rename_i h2
    obtain⟨rfl,rfl⟩:=h2
    simp only[Option.some.injEq]at h
    subst h
    exact⟨rfl,hr⟩
  ·cases h
 unfold Z2V
 generalize hb:(goL cE [e] 1 0).1=b at *
 generalize hn:(goL cE [e] 1 0).2=n at *
 have hO1:=Z2u (P:=Y00) (gl:=runLives.gl) (I:=Unit) (G:=λ_=>True) (fF:=λ_=>78) (fA:=λ_=>[.slice 2 0 1 1 4,.int .i64 1,.func (.func 79) [] [.ptr 3 0]]) (fH:=λ_=>ceH e.cells 0) (fR:=λ_=>.bool b) (fO:=λ_=>ceH e.cells n) λ_ _=>hI
 have hO:=Z1E hO1 hZ
 have q1:Z06 Y00 (Z2t (orcI (λ_:Unit=>True) (λ_=>78) (λ_=>[.slice 2 0 1 1 4,.int .i64 1,.func (.func 79) [] [.ptr 3 0]]) (λ_=>ceH e.cells 0) (λ_=>.bool b) (λ_=>ceH e.cells n)) (Z6v (ceF e.cells (Z14 e)))) (ceH e.cells 0) 78 [.slice 2 0 1 1 4,.int .i64 1,.func (.func 79) [] [.ptr 3 0]]=some (.bool b,ceH e.cells n) :=
  callOr1 (by kernel_rfl) (Zdy (λ_ _ _ _ _ _ _=>⟨rfl,rfl⟩) (by kernel_rfl) () trivial rfl rfl rfl)
 have q2:Z06 Y00 (Z2t (orcI (λ_:Unit=>True) (λ_=>78) (λ_=>[.slice 2 0 1 1 4,.int .i64 1,.func (.func 79) [] [.ptr 3 0]]) (λ_=>ceH e.cells 0) (λ_=>.bool b) (λ_=>ceH e.cells n)) (Z6v (ceF e.cells (Z14 e)))) (ceH e.cells n) 78 [.slice 2 0 1 1 4,.int .i64 1,.func (.func 65) [] []]=some (.bool (Z14 e),ceH e.cells n):=by
  refine Z54 (by kernel_rfl) (Z37 λ_ _ _ h=>?_) (Z1d (fa:=[.rs 1 4 e.cells,.int .i64 1,.func (.func 65) [] []]) (by kernel_rfl) ?_ ?_)
  ·simp at h
  ·obtain⟨op,num,name,kids⟩:=e;rfl
  ·unfold ceF;rw[if_pos ⟨rfl,rfl⟩]
 generalize Z2t (orcI (λ_:Unit=>True) (λ_=>78) (λ_=>[.slice 2 0 1 1 4,.int .i64 1,.func (.func 79) [] [.ptr 3 0]]) (λ_=>ceH e.cells 0) (λ_=>.bool b) (λ_=>ceH e.cells n)) (Z6v (ceF e.cells (Z14 e)))=O at *
 clear hI hr hZ hO1 hn hb
 generalize Z0A e=sz at *
 generalize Z4z e=dp at *
 generalize Z14 e=r at *
 obtain⟨op,num,name,kids⟩:=e
 simp only[Ex.cells]at *
 refine Z2f (λg=>Y03 g 78) 2 follows Z05 hO Tryz.func38 rfl ?_
 repeat' ((conv=>whnf);first|refine exI q1 ?_|refine exI q2 ?_|refine stp ?_|with_reducible apply Z01<;>intro h)
 all_goals (conv=>whnf)
 all_goals (show AV.int _ _=AV.int _ _;congr 1;clear q1 q2 hO;subst_vars)
 all_goals (by_cases hq:2000<sz\/32<dp<;>cases r<;>simp_all)
end
section
def Z2p:List (List St)->Nat
 |[]=>0
 |l::t=>max (deepSL l) (Z2p t)
end
section
def ckB(n:Nat)(g:Bool):Z00:=[⟨true,0,0,.cells [.int .i64 n] 3⟩,⟨true,1,0,.cells [.bool g] 4⟩,⟨true,2,0,.cells [.func (.func 102) [] [.ptr 0 0]] 96⟩]
def ckH(s:Nat×Bool):Z00:=[⟨true,0,0,.cells [.int .i64 s.1] 3⟩,⟨true,1,0,.cells [.bool s.2] 4⟩,⟨true,2,0,.cells [.func (.func 102) [] [.ptr 0 0]] 96⟩,⟨true,3,0,.cells [.func (.func 62) [] [.ptr 2 0,.ptr 1 0]] 96⟩]
def lim(n:Nat)(d:Int):Bool:=decide (((n+1:Nat):Int)<=2000)&&decide (d<=32)
def ckE(_:Ex)(d:Int)(s:Nat×Bool):Bool×(Nat×Bool):=(lim s.1 d,(s.1+1,lim s.1 d))
def ckS(_:St)(d:Int)(s:Nat×Bool):Bool×(Nat×Bool):=(lim s.1 d,(s.1+1,lim s.1 d))
theorem ZqJ(cs:List AV)(d:Int)(n:Nat)(g:Bool)(hn:n<=2000):Z1v Y00 runLives.gl 103 [.rp cs,.int .i64 d,.ptr 3 0] (ckH (n,g)) (.bool (lim n d)) (ckH (n+1,lim n d)):=by
 refine ZaB (k:=4) follows Z05 (Z09 follows Z05 Z13 4) rfl Tryz.func103 rfl (Z0f (isC:=λ_=>false) 4) ?_
 repeat' ((conv=>whnf);first|refine stp ?_|with_reducible apply Z01<;>intro h)
 all_goals (conv=>whnf)
 all_goals (exact⟨by unfold lim;rw[h];rfl,by unfold lim;rw[h];rfl,rfl⟩)
theorem ZqI(cs:List AV)(d:Int)(n:Nat)(g:Bool)(hn:n<=2000):Z1v Y00 runLives.gl 104 [.rp cs,.int .i64 d,.ptr 3 0] (ckH (n,g)) (.bool (lim n d)) (ckH (n+1,lim n d)):=by
 refine ZaB (k:=4) follows Z05 (Z09 follows Z05 Z13 4) rfl Tryz.func104 rfl (Z0f (isC:=λ_=>false) 4) ?_
 repeat' ((conv=>whnf);first|refine stp ?_|with_reducible apply Z01<;>intro h)
 all_goals (conv=>whnf)
 all_goals (exact⟨by unfold lim;rw[h];rfl,by unfold lim;rw[h];rfl,rfl⟩)
theorem ZoZ{a b:Nat×Bool}(h:ckH a=ckH b):a=b:=by
 simp only[ckH,List.cons.injEq,AObj.mk.injEq,ABody.cells.injEq,AV.int.injEq,AV.bool.injEq,and_true,true_and]at h
 obtain⟨x,y⟩:=a
 obtain⟨z,w⟩:=b
 simp only at h
 rw[show x=z by omega,h.2]
def tw(r:Bool×Nat):Bool×(Nat×Bool):=(r.1,(r.2,r.1))
theorem Z75{r:Bool×Nat}{f:Nat->Bool×Nat}{f':Nat×Bool->Bool×(Nat×Bool)}(h:∀n,f' (n,true)=tw (f n)):Z1C (tw r) f'=tw (Z1C r f):=by
 obtain⟨b,n⟩:=r
 cases b with
 |true=>exact h n
 |false=>rfl
mutual
theorem Zqm:∀(e:Ex)(d:Int)(n:Nat),goE ckE e d (n,true)=tw (goE cE e d n)
 | .mk o num s k,d,n=>by
  have e1:goE ckE (.mk o num s k) d (n,true)=Z1C (tw (cE (.mk o num s k) d n)) λs=>goL ckE k (d+1) s:=by simp only[goE];rfl
  have e2:goE cE (.mk o num s k) d n=Z1C (cE (.mk o num s k) d n) λs=>goL cE k (d+1) s:=by simp only[goE,Z1C]
  rw[e1,e2]
  exact Z75 λn=>goL_ck k (d+1) n
theorem goL_ck:∀(l:List Ex)(d:Int)(n:Nat),goL ckE l d (n,true)=tw (goL cE l d n)
 |[],d,n=>by simp only[goL,tw]
 |e::l,d,n=>by
  have e1:goL ckE (e::l) d (n,true)=Z1C (goE ckE e d (n,true)) λs=>goL ckE l d s:=by simp only[goL,Z1C]
  have e2:goL cE (e::l) d n=Z1C (goE cE e d n) λs=>goL cE l d s:=by simp only[goL,Z1C]
  rw[e1,e2,Zqm e d n]
  exact Z75 λn=>goL_ck l d n
end
mutual
theorem Zqk:∀(x:St)(d:Int)(n:Nat),goS ckE ckS x d (n,true)=tw (goS cE cS x d n)
 | .mk k nm lc o x t e,d,n=>by
  simp only[goS]
  rw[show ckS (.mk k nm lc o x t e) d (n,true)=tw (cS (.mk k nm lc o x t e) d n) from rfl]
  exact Z75 λn=>by
   rw[goL_ck x (d+1) n]
   exact Z75 λn=>by
    rw[goSL_ck t (d+1) n]
    exact Z75 λn=>goSL_ck e (d+1) n
theorem goSL_ck:∀(l:List St)(d:Int)(n:Nat),goSL ckE ckS l d (n,true)=tw (goSL cE cS l d n)
 |[],d,n=>by simp only[goSL,tw]
 |e::l,d,n=>by
  simp only[goSL]
  rw[Zqk e d n]
  exact Z75 λn=>goSL_ck l d n
end
theorem Zgq(d:Int)(s:Nat×Bool)(h:0<=d/\d<=33/\s.1<=2000)(ht:lim s.1 d=true):0<=d+1/\d+1<=33/\s.1+1<=2000 :=
 have h2:s.1+1<=2000/\d+1<=33:=(ZbW d s.1).1.1 ht
 have h3:0<=d:=h.1
 ⟨by clear h ht h2;omega,h2.2,h2.1⟩
theorem ZqH(d:Int)(s:Nat×Bool)(h0:0<=d)(h:0<=d+1/\d+1<=33/\s.1<=2000):0<=d/\d<=33/\s.1<=2000:=⟨h0,by have:=h.2.1;clear h;omega,h.2.2⟩
theorem ZoY(d:Int)(s:Nat×Bool)(h:0<=d/\d<=33/\s.1<=2000):0<=d/\d<=1152921504606846976:=⟨h.1,by have:=h.2.1;clear h;omega⟩
def ckV:TvS runLives.gl where
 σ:=Nat×Bool
 Mem:=ckH
 k:=4
 len:=λ_=>rfl
 same:=λs=>⟨⟨hbp,hbp,⟨rfl,rfl,rfl,rfl,Y0a ⟨Y06 trivial ⟨Y02 rfl rfl,trivial⟩,trivial⟩⟩,⟨rfl,rfl,rfl,rfl,Y0a ⟨Y06 trivial ⟨Y02 rfl rfl,Y02 rfl rfl,trivial⟩,trivial⟩⟩,trivial⟩,rfl,rfl⟩
 evo:=λ_ _=>rfl
 inj:=λ_ _ h=>ZoZ h
 I:=λd s m=>0<=d/\d<=33/\s.1<=2000
 up:=λd s m h0 h=>ZqH d s h0 h
 less:=λd s m h=>h
 bnd:=λd s m h=>ZoY d s h
 gE:=103
 cE:=[.ptr 3 0]
 hE:=ckE
 bodyE:=by kernel_rfl
 wkE:=⟨Y02 rfl rfl,trivial⟩
 okE:=λe rest d s m _ h=>ZqJ (e.cells++rest) d s.1 s.2 h.2.2
 downE:=λe d s m h ht=>Zgq d s h ht
 gS:=104
 cS:=[.ptr 3 0]
 hS:=ckS
 bodyS:=by kernel_rfl
 wkS:=⟨Y02 rfl rfl,trivial⟩
 okS:=λx rest d s m _ h=>ZqI (x.cells++rest) d s.1 s.2 h.2.2
 downS:=λe d s m h ht=>Zgq d s h ht
def ckF:AV:=.func (.func 103) [] [.ptr 3 0]
def ckG:AV:=.func (.func 104) [] [.ptr 3 0]
theorem Zmt(l:List St)(n:Nat)(hok:okSL l)(hl:l.length<=9223372036854775807)(hn:n<=2000):Z1v Y00 runLives.gl 64 [stA l,.int .i64 1,ckF,ckG] (ckH (n,true)) (.bool (goSL cE cS l 1 n).1) (ckH ((goSL cE cS l 1 n).2,(goSL cE cS l 1 n).1)):=by
 have:=TvS.stmts ckV (sizeSL l) l 1 (n,true) 0 (Y01 _) hok hl ⟨by decide,by decide,hn⟩
 have e:goSL ckV.hE ckV.hS l 1 (n,true)=tw (goSL cE cS l 1 n):=goSL_ck l 1 n
 rw[e]at this
 exact this
def cnH(n:Nat)(g:Bool)(nd nt:Nat)(cd ct:List AV):Z00:=[⟨true,0,0,.cells [.int .i64 n] 3⟩,⟨true,1,0,.cells [.bool g] 4⟩,⟨true,2,0,.cells [.func (.func 102) [] [.ptr 0 0]] 96⟩,⟨true,3,0,.cells [.rs nd 3 cd,.rs nt 1 ct] 26⟩,⟨true,4,0,.cells [.func (.func 62) [] [.ptr 2 0,.ptr 1 0]] 96⟩]
def cnF:AV:=.func (.func 103) [] [.ptr 4 0]
def cnG:AV:=.func (.func 104) [] [.ptr 4 0]
theorem ZrB(nd nt:Nat)(cd ct:List AV)(l:List St)(n:Nat)(hok:okSL l)(hl:l.length<=9223372036854775807)(hn:n<=2000):Z1v Y00 runLives.gl 64 [stA l,.int .i64 1,cnF,cnG] (cnH n true nd nt cd ct) (.bool (goSL cE cS l 1 n).1) (cnH (goSL cE cS l 1 n).2 (goSL cE cS l 1 n).1 nd nt cd ct):=by
 have hM:=Zmt l n hok hl hn
 generalize goSL cE cS l 1 n=r at *
 have h:=Z9j (m:=[0,1,2,4]) (n:=5) (Hc:=cnH n true nd nt cd ct) (cargs:=[stA l,.int .i64 1,cnF,cnG]) hM ?_ ?_ rfl rfl rfl rfl rfl rfl
 · have e1:Zfj [0,1,2,4] (ckH (r.2,r.1)) 0 (cnH n true nd nt cd ct)=cnH r.2 r.1 nd nt cd ct:=rfl
   rw[e1]at h
   exact h
 ·rfl
 ·exact⟨hbp,hbp,⟨rfl,rfl,rfl,rfl,Y0a ⟨Y06 trivial ⟨Y02 rfl rfl,trivial⟩,trivial⟩⟩,⟨rfl,rfl,rfl,rfl,Y0a ⟨Y06 trivial ⟨Y02 rfl rfl,Y02 rfl rfl,trivial⟩,trivial⟩⟩,trivial⟩
def goT(g:List St->Nat->Bool×Nat):List (List St)->Nat->Bool×Nat
 |[],n=>(true,n)
 |l::t,n=>Z1C (g l n) λn=>goT g t n
theorem Zn3{g:List St->Nat->Bool×Nat}:∀(t:List (List St))(n i:Nat)(hi:i<t.length),(goT g (t.take i) n).1=true->goT g (t.take (i+1)) n=g t[i] (goT g (t.take i) n).2
 |e::l,n,0,_,_=>by
  simp only[List.take_zero,Y0h,goT,Y0w,Z1C]
  split
  ·rename_i h2;rw[<- h2]
  ·rename_i h2;rw[<- Bool.eq_false_iff.2 h2]
 |e::l,n,i+1,hi,ht=>by
  simp only[Y0h,goT,Y0p,Z1C]at ht⊢
  split
  · rename_i h2
    rw[if_pos h2]at ht
    exact Zn3 l _ i (by simpa using hi) ht
  ·rename_i h2;rw[if_neg h2]at ht;cases ht
theorem Zg1{g:List St->Nat->Bool×Nat}:∀(t:List (List St))(n i:Nat),(goT g (t.take i) n).1=false->goT g t n=goT g (t.take i) n
 |[],n,i,hf=>by simp
 |e::l,n,0,hf=>by simp only[List.take_zero,goT]at hf;cases hf
 |e::l,n,i+1,hf=>by
  simp only[Y0h,goT,Z1C]at hf⊢
  split
  · rename_i h2
    rw[if_pos h2]at hf
    exact Zg1 l _ i hf
  ·rfl
def cT(ts:List (List St))(n:Nat):Bool×Nat:=goT (λl n=>goSL cE cS l 1 n) ts n
theorem Zkb:∀(ts:List (List St))(n:Nat),n<=2000->Cnt (cT ts n) n (Z0H ts) (1+Z2p ts)
 |[],n,h=>by
  simp only[cT,goT,Z0H,Z2p]
  exact⟨⟨λ_=>by omega,λ_=>rfl⟩,λ_=>rfl⟩
 |l::t,n,h=>by
  have:=Z4j (f:=λn=>cT t n) (goSL_c l 1 n h (by omega)) λh1 _=>Zkb t _ h1
  refine Cnt.to this (by simp only[Z0H]) ?_
  simp only[Z2p];omega
theorem ZlB (ts : List (List St)) (nd : Nat) (cd : List AV) (hok : ZhI ts) (hl : ts.length <= 9223372036854775807) :
  Z1v Y00 runLives.gl 61 [.agg [.rs nd 3 cd,.rs ts.length 1 (ts.map stA)],.func (.func 62) [] [.ptr 2 0,.ptr 1 0]] (ckB 0 true) (.tuple []) (ckB (cT ts 0).2 (cT ts 0).1):=by
 obtain⟨O,hO,⟨p1,-⟩,-⟩:=Z25 (P:=Y00) (gl:=runLives.gl) [{ I:=List St×Nat,f:=64,G:=(λp=>okSL p.1/\p.1.length<=9223372036854775807/\p.2<=2000),A:=(λp=>[stA p.1,.int .i64 1,cnF,cnG]),H:=(λp=>cnH p.2 true nd ts.length cd (ts.map stA)),R:=(λp=>.bool (goSL cE cS p.1 1 p.2).1),O:=(λp=>cnH (goSL cE cS p.1 1 p.2).2 (goSL cE cS p.1 1 p.2).1 nd ts.length cd (ts.map stA)),body:=(by kernel_rfl),inj:=(λp q _ _ ha hh=>by simp only[List.cons.injEq,and_true]at ha;simp only[cnH,List.cons.injEq,AObj.mk.injEq,ABody.cells.injEq,AV.int.injEq,and_true,true_and]at hh;rw[Z7a ha,show p.2=q.2 by omega];exact⟨rfl,rfl⟩),ok:=(λp hp=>ZrB _ _ _ _ p.1 p.2 hp.1 hp.2.1 hp.2.2) }] [] rfl
 have q1:∀l n,okSL l->l.length<=9223372036854775807->n<=2000->Z06 Y00 O (cnH n true nd ts.length cd (ts.map stA)) 64 [stA l,.int .i64 1,cnF,cnG]=some (.bool (goSL cE cS l 1 n).1,cnH (goSL cE cS l 1 n).2 (goSL cE cS l 1 n).1 nd ts.length cd (ts.map stA)):=λl n h1 h2 h3=>p1 (l,n) ⟨h1,h2,h3⟩
 clear p1
 refine ZaB (k:=3) follows Z05 hO rfl Tryz.func61 rfl (Z83 _ _) ?_
 repeat' ((conv=>whnf);first|refine stp ?_|with_reducible apply Z01<;>intro h)
 conv=>whnf
 refine⟨Nat,(λi=>i<=ts.length/\(cT (ts.take i) 0).1=true),(λi=>[(4,cnF),(5,cnG),(11,.rs ts.length 1 (ts.map stA)),(12,.int .i64 ts.length),(13,.int .i64 i)]),(λi=>cnH (cT (ts.take i) 0).2 true nd ts.length cd (ts.map stA)),(λi=>ts.length-i),⟨0,⟨Y05 _,rfl⟩,FgLK.mk [0,1,2,3,4] rfl rfl ?_ ⟨hbp,hbp,⟨rfl,rfl,rfl,rfl,Y0a ⟨Y06 trivial ⟨Y02 rfl rfl,trivial⟩,trivial⟩⟩,hbp,⟨rfl,rfl,rfl,rfl,Y0a ⟨Y06 trivial ⟨Y02 rfl rfl,Y02 rfl rfl,trivial⟩,trivial⟩⟩,trivial⟩ rfl⟩,?_⟩
 · refine Y0d (Y06 trivial ⟨Y02 rfl rfl,trivial⟩) ?_
   refine Y0d (Y06 trivial ⟨Y02 rfl rfl,trivial⟩) ?_
   refine Y0d (Y04 rfl) ?_
   refine Y0d (Y08 rfl) ?_
   exact⟨Y08 rfl,trivial⟩
 rintro i ⟨hi,hall⟩
 dsimp only
 have hb:(cT (ts.take i) 0).2<=2000:=by
  have h1:=Zkb (ts.take i) 0 (by decide)
  rw[h1.2 hall];exact (h1.1.1 hall).1
 by_cases hlt:i<ts.length
 · have e1:decide ((i:Int)<(ts.length:Int))=true:=by simpa using hlt
   have hat:cT (ts.take (i+1)) 0=goSL cE cS ts[i] 1 (cT (ts.take i) 0).2:=Zn3 ts 0 i hlt hall
   have hst:(cT (ts.take (i+1)) 0).1=false->cT ts 0=cT (ts.take (i+1)) 0:=Zg1 ts 0 (i+1)
   have hx:=th1 ts i hlt
   obtain⟨k1,k2⟩:=Z5q hok _ (Z0N hlt)
   have q2:=q1 ts[i] (cT (ts.take i) 0).2 k1 k2 hb
   generalize (cT (ts.take i) 0).2=n at *
   generalize ts[i]=l at *
   generalize goSL cE cS l 1 n=r at *
   obtain⟨b,n2⟩:=r
   simp only[stA]at hx
   simp only[stA,cnF,cnG,cnH]at q2
   cases b with
   |true =>
    repeat' ((conv=>whnf);first|refine exI hx ?_|refine exI q2 ?_|(with_reducible refine ixJ i rfl ?_ ?_;focus omega)|refine stp ?_|with_reducible apply Z01<;>intro h)
    conv=>whnf
    refine⟨i+1,⟨hlt,by rw[hat]⟩,by show ts.length-(i+1)<ts.length-i;omega,FgLK.mk [0,1,2,3,4] rfl rfl ?_ ⟨⟨rfl,rfl,rfl,rfl,?_⟩,hbp,⟨rfl,rfl,rfl,rfl,Y0a ⟨Y06 trivial ⟨Y02 rfl rfl,trivial⟩,trivial⟩⟩,hbp,⟨rfl,rfl,rfl,rfl,Y0a ⟨Y06 trivial ⟨Y02 rfl rfl,Y02 rfl rfl,trivial⟩,trivial⟩⟩,trivial⟩ rfl⟩
    · refine Y0d (Y06 trivial ⟨Y02 rfl rfl,trivial⟩) ?_
      refine Y0d (Y06 trivial ⟨Y02 rfl rfl,trivial⟩) ?_
      refine Y0d (Y04 rfl) ?_
      refine Y0d (Y08 rfl) ?_
      exact⟨Y08 rfl,trivial⟩
    · rw[hat]
      exact Y0e (rest:=[]) rfl rfl
   |false =>
    rw[hst (by rw[hat]),hat]
    repeat' ((conv=>whnf);first|refine exI hx ?_|refine exI q2 ?_|(with_reducible refine ixJ i rfl ?_ ?_;focus omega)|refine stp ?_|with_reducible apply Z01<;>intro h)
    all_goals (conv=>whnf)
    all_goals (exact⟨rfl,rfl⟩)
 · have e1:decide ((i:Int)<(ts.length:Int))=false:=by simpa using hlt
   have hi2:i=ts.length:=by have:=hi;omega
   subst hi2
   rw[Y0o]at hall⊢
   rw[hall]
   generalize (cT ts 0).2=n at *
   repeat' ((conv=>whnf);first|refine stp ?_|with_reducible apply Z01<;>intro h)
   all_goals (conv=>whnf)
   all_goals (exact⟨rfl,rfl⟩)
end
section
set_option maxHeartbeats 8000000
variable {gl:Z0k}
def isK(k:Int):Bool:=decide (1<=k/\k<=11)
def hX(k:Int):Int:=if isK k then ZlR k else 0
def hT(k:Int):Bool:=isK k&&Zpt k
end
section
variable {gl:Z0k}
def dcB(d:Dc):Bool:=Z1A d.name&&decide (0<=d.val)
def Z1z:List (List St)->Bool
 |[]=>true
 |l::t=>rightSL l&&Z1z t
def Z19(p:Pr):Int:=if 2000<Z0H p.threads\/32<Z2p p.threads then 3 else if p.decls.all dcB&&Z1z p.threads then 0 else 2
theorem Z4N:∀(l:List (List St))(i:Nat)(h:i<l.length),Z1z (l.take (i+1))=(Z1z (l.take i)&&rightSL l[i])
 |e::l,0,h=>by simp only[Y0h,List.take_zero,Z1z,Y0w,Y0m,Y0q]
 |e::l,i+1,h=>by
  have:=Z4N l i (by simpa using h)
  simp only[Y0h,Z1z,Y0p]at this⊢;rw[this,Bool.and_assoc]
theorem Z5V:∀{l:List (List St)}{i:Nat}(h:i<l.length),rightSL l[i]=false->Z1z l=false
 |e::l,0,h,h2=>by simp only[Y0w]at h2;simp only[Z1z,h2,Bool.false_and]
 |e::l,i+1,h,h2=>by simp only[Y0p]at h2;simp only[Z1z,Z5V (l:=l) (by simpa using h) h2,Y0x]
theorem Zc1{α : Type}(f : α -> Bool):∀(l:List α)(i:Nat)(h:i<l.length),(l.take (i+1)).all f=((l.take i).all f&&f l[i])
 |e::l,0,h=>by simp
 |e::l,i+1,h=>by
  have:=Zc1 f l i (by simpa using h)
  simp only[Y0h,List.all_cons,Y0p]at this⊢;rw[this,Bool.and_assoc]
theorem Zks{α : Type}(f : α -> Bool){l:List α}{i:Nat}(h:i<l.length)(h2:f l[i]=false):l.all f=false:=by
 rw[List.all_eq_false];exact⟨_,Z0N h,by simp[h2]⟩
end
section
def chC(ds:List Dc)(ts:List (List St))(n:Nat)(g:Bool):Z00:=[⟨true,0,0,.cells [.rs ds.length 3 (dcC ds),.rs ts.length 1 (ts.map stA)] 26⟩,⟨true,1,0,.cells [.int .i64 n] 3⟩,⟨true,2,0,.cells [.bool g] 4⟩,⟨true,3,0,.cells [.func (.func 102) [] [.ptr 1 0]] 96⟩]
theorem ZoX (ds : List Dc) (ts : List (List St)) (hok : ZhI ts) (hl : ts.length <= 9223372036854775807) :
  Z1v Y00 runLives.gl 61 [.agg [.rs ds.length 3 (dcC ds),.rs ts.length 1 (ts.map stA)],.func (.func 62) [] [.ptr 3 0,.ptr 2 0]] (chC ds ts 0 true) (.tuple []) (chC ds ts (cT ts 0).2 (cT ts 0).1):=by
 have hM:=ZlB ts ds.length (dcC ds) hok hl
 have h:=Z9j (m:=[1,2,3]) (n:=4) (Hc:=chC ds ts 0 true) (cargs:=[.agg [.rs ds.length 3 (dcC ds),.rs ts.length 1 (ts.map stA)],.func (.func 62) [] [.ptr 3 0,.ptr 2 0]]) hM ?_ ?_ rfl rfl rfl rfl rfl rfl
 ·exact h
 ·rfl
 ·exact⟨hbp,hbp,⟨rfl,rfl,rfl,rfl,Y0a ⟨Y06 trivial ⟨Y02 rfl rfl,trivial⟩,trivial⟩⟩,trivial⟩
theorem ZoW(ts:List (List St)):(cT ts 0).1=true ↔ ¬(2000<Z0H ts\/32<Z2p ts):=by
 rw[(Zkb ts 0 (by decide)).1];omega
theorem ZaK(p:Pr)(hok:okP p)(hs:Z0H p.threads<=1000000):ValOK Y00 runLives.gl 29 [p.av] (.int .i64 (Z19 p)):=by
 obtain⟨⟨hd1,hd2⟩,ht1,ht2⟩:=hok
 obtain⟨ds,ts⟩:=p
 have hsay:=ZoW ts
 simp only[Pr.av,Z19]at *
 obtain⟨O,hO,⟨p1,-⟩,⟨p2,p3,-⟩⟩:=Z25 (P:=Y00) (gl:=runLives.gl) [{ I:=Unit,f:=61,G:=(λ_=>True),A:=(λ_=>[.agg [.rs ds.length 3 (dcC ds),.rs ts.length 1 (ts.map stA)],.func (.func 62) [] [.ptr 3 0,.ptr 2 0]]),H:=(λ_=>chC ds ts 0 true),R:=(λ_=>.tuple []),O:=(λ_=>chC ds ts (cT ts 0).2 (cT ts 0).1),body:=(by kernel_rfl),inj:=(λ_ _ _ _ _ _=>⟨rfl,rfl⟩),ok:=(λ_ _=>ZoX ds ts ht1 ht2) }]
  [{ I:=List St,f:=64,G:=(λx=>x∈ts),A:=(λx=>[stA x,.int .i64 1,.func (.func 65) [] [],.func (.func 66) [] []]),R:=(λx=>.bool (rightSL x)),body:=(by kernel_rfl),inj:=(λi j _ _ h=>by simp only[List.cons.injEq,and_true]at h;rw[Z7a h]),ok:=(λx hx=>⟨rfl,ZnD x 1 (Z5q ht1 _ hx).1 (Z5q ht1 _ hx).2 (by decide) (by have:=Z3T _ _ hx;omega)⟩) },
   { I:=List UInt8,f:=63,G:=(λs=>s.length<=9223372036854775807),A:=(λs=>[.str s,.bool true]),R:=(λs=>.bool (Z1A s)),body:=(by kernel_rfl),inj:=(λi j _ _ h=>by simp only[List.cons.injEq,AV.str.injEq,and_true]at h;rw[h]),ok:=(λs hs=>⟨rfl,Zd2 s hs true⟩) }] rfl
 have q1:Z06 Y00 O (chC ds ts 0 true) 61 [.agg [.rs ds.length 3 (dcC ds),.rs ts.length 1 (ts.map stA)],.func (.func 62) [] [.ptr 3 0,.ptr 2 0]]=some (.tuple [],chC ds ts (cT ts 0).2 (cT ts 0).1):=p1 () trivial
 have q2:∀x∈ts,∀H,Z06 Y00 O H 64 [stA x,.int .i64 1,.func (.func 65) [] [],.func (.func 66) [] []]=some (.bool (rightSL x),H):=p2
 have q3:∀s,s.length<=9223372036854775807->∀H,Z06 Y00 O H 63 [.str s,.bool true]=some (.bool (Z1A s),H):=p3
 clear p1 p2 p3
 generalize (cT ts 0).2=n at *
 generalize (cT ts 0).1=b at *
 refine Z2f (λg=>Y03 g 61 || (Y03 g 64 || Y03 g 63)) 1 follows Z05 hO Tryz.func29 rfl ?_
 cases b with
 |false =>
  rw[if_pos (Classical.not_not.1 λh=>by have:=hsay.2 h;cases this)]
  repeat' ((conv=>whnf);first|refine exI q1 ?_|refine stp ?_|with_reducible apply Z01<;>intro h)
  all_goals (conv=>whnf)
  all_goals rfl
 |true =>
  rw[if_neg (hsay.1 rfl)]
  repeat' ((conv=>whnf);first|refine exI q1 ?_|refine stp ?_|with_reducible apply Z01<;>intro h)
  conv=>whnf
  refine⟨Nat,(λi=>i<=ds.length/\(ds.take i).all dcB=true),(λi=>[(1,.ptr 0 0),(16,.rs ds.length 3 (dcC ds)),(17,.int .i64 ds.length),(18,.int .i64 i)]),(λ_=>[⟨true,0,0,.cells [.rs ds.length 3 (dcC ds),.rs ts.length 1 (ts.map stA)] 26⟩]),(λi=>ds.length-i),⟨0,⟨Y05 _,rfl⟩,Y0b [0] rfl ?_ ⟨hbp,trivial⟩ rfl⟩,?_⟩
  ·exact wks
  rintro i ⟨hi,hall⟩
  dsimp only
  by_cases hlt:i<ds.length
  · have e1:decide ((i:Int)<(ds.length:Int))=true:=by simpa using hlt
    have hat:=Zc1 dcB ds i hlt
    rw[hall,Y0q]at hat
    have hfalse:dcB ds[i]=false->ds.all dcB=false:=Zks dcB hlt
    have hx3:=dc3 ds i hlt
    have qn:=q3 ds[i].name (hd2 _ (Z0N hlt))
    generalize hd:ds[i]=d at *
    obtain⟨nm,pl,vl⟩:=d
    simp only[dcB,Dc.cells]at hat hfalse hx3 qn
    generalize Z1A nm=w at *
    by_cases hv:0<=vl
    · have e3:decide (vl<0)=false:=by simpa using hv
      rw[show decide (0<=vl)=true from by simpa using hv,Y0m]at hat hfalse
      cases w with
      |true =>
       repeat' ((conv=>whnf);first|with_reducible refine exI (qn _) ?_|(with_reducible refine ixJ i rfl ?_ ?_;focus omega)|refine exI hx3 ?_|refine stp ?_|with_reducible apply Z01<;>intro h)
       conv=>whnf
       refine⟨i+1,⟨hlt,hat⟩,by show ds.length-(i+1)<ds.length-i;omega,Y0b [0] rfl ?_ ⟨hbp,trivial⟩ rfl⟩
       exact wks
      |false =>
       rw[hfalse rfl]
       repeat' ((conv=>whnf);first|with_reducible refine exI (qn _) ?_|(with_reducible refine ixJ i rfl ?_ ?_;focus omega)|refine exI hx3 ?_|refine stp ?_|with_reducible apply Z01<;>intro h)
       all_goals rfl
    · have e3:decide (vl<0)=true:=by simp only[decide_eq_true_eq];omega
      rw[show decide (0<=vl)=false from by simpa using hv,Y0x]at hat hfalse
      rw[hfalse rfl]
      cases w
      all_goals (repeat' ((conv=>whnf);first|with_reducible refine exI (qn _) ?_|(with_reducible refine ixJ i rfl ?_ ?_;focus omega)|refine exI hx3 ?_|refine stp ?_|with_reducible apply Z01<;>intro h))
      all_goals rfl
  · have e1:decide ((i:Int)<(ds.length:Int))=false:=by simpa using hlt
    have hi2:i=ds.length:=by have:=hi;omega
    subst hi2
    rw[Y0o]at hall
    rw[hall,Y0q]
    repeat' ((conv=>whnf);first|refine stp ?_|with_reducible apply Z01<;>intro h)
    conv=>whnf
    refine⟨Nat,(λi=>i<=ts.length/\Z1z (ts.take i)=true),(λi=>[(33,.rs ts.length 1 (ts.map stA)),(34,.int .i64 ts.length),(35,.int .i64 i)]),(λ_=>[]),(λi=>ts.length-i),⟨0,⟨Y05 _,rfl⟩,FgL.mk0 rfl ?_⟩,?_⟩
    ·exact wks
    rintro i ⟨hi,hrl⟩
    dsimp only
    by_cases hlt:i<ts.length
    · have e1:decide ((i:Int)<(ts.length:Int))=true:=by simpa using hlt
      have hat:=Z4N ts i hlt
      rw[hrl,Y0q]at hat
      have hfalse:rightSL ts[i]=false->Z1z ts=false:=Z5V hlt
      have hx:=th1 ts i hlt
      have qr:=q2 ts[i] (Z0N hlt)
      generalize ts[i]=l at *
      simp only[stA]at hx qr
      cases hr:rightSL l with
      |true =>
       rw[hr]at hat qr
       repeat' ((conv=>whnf);first|with_reducible refine exI (qr _) ?_|(with_reducible refine ixJ i rfl ?_ ?_;focus omega)|refine exI hx ?_|refine exI (qr _) ?_|refine stp ?_|with_reducible apply Z01<;>intro h)
       conv=>whnf
       refine⟨i+1,⟨hlt,hat⟩,by show ts.length-(i+1)<ts.length-i;omega,FgL.mk0 rfl ?_⟩
       exact wks
      |false =>
       rw[hr]at qr
       rw[hfalse hr]
       repeat' ((conv=>whnf);first|with_reducible refine exI (qr _) ?_|(with_reducible refine ixJ i rfl ?_ ?_;focus omega)|refine exI hx ?_|refine exI (qr _) ?_|refine stp ?_|with_reducible apply Z01<;>intro h)
       all_goals rfl
    · have e1:decide ((i:Int)<(ts.length:Int))=false:=by simpa using hlt
      have hi2:i=ts.length:=by have:=hi;omega
      subst hi2
      rw[Y0o]at hrl
      rw[hrl]
      repeat' ((conv=>whnf);first|refine stp ?_|with_reducible apply Z01<;>intro h)
      all_goals rfl
end
section
variable {gl:Z0k}
def Z2b(T:List Tq):(List Dc×List (List St))×Ps:=Z1k T (T.length+1) [] [] s0
def ZcF(T:List Tq):Ps:=(Z2b T).2
theorem ZlU{sn:Z0o}{ι : Z0n}{v:Value}:∀{l:List (List St)},VR sn ι (Z3Z l) v->VR sn ι (.rs l.length 1 (l.map stA)) v
 |[],h=>Z2o h
 |_::_,h=>h
theorem Zn2{sn:Z0o}{ι : Z0n}{v:Value}{D:List Dc}{S:List (List St)}(h:VR sn ι (.agg [dcN D,Z3Z S]) v):VR sn ι (Pr.mk D S).av v:=by
 obtain⟨d,rfl,d1,l1,f1,a1,d2,l2,rfl,a2,h1⟩:=h.agg
 exact Z33 ⟨_,_,f1,Zk1 a1,_,_,rfl,ZlU a2,h1⟩
theorem Zj9{sn:Z0o}{v:Value}{D:List Dc}{S:List (List St)}{x:AV}(h:VR sn noI (.tuple [.agg [dcN D,Z3Z S],x]) v):VR sn noI (.tuple [(Pr.mk D S).av,x]) v:=by
 simp only[VR,LR]at h⊢
 obtain⟨ds,e,d,l,e1,h1,h2⟩:=h
 exact⟨ds,e,d,l,e1,Zn2 h1,h2⟩
theorem ZoS(D:List Dc)(S:List (List St)):refsL [dcN D,Z3Z S] []=[]:=by cases D<;>cases S<;>rfl
theorem Zmk(D:List Dc)(S:List (List St)):refsL [.agg [dcN D,Z3Z S]] []=[]:=by cases D<;>cases S<;>rfl
theorem ZqE(D:List Dc)(S:List (List St))(g:Nat->Nat):renL g [dcN D,Z3Z S]=[dcN D,Z3Z S]:=by cases D<;>cases S<;>rfl
theorem ZjS{T:List Tq}{E:Ps}(h:(Z2x T E).err=0):E.err=0/\(Z0r T E).kind=5/\Z2x T E=E:=by
 unfold Z2x at h⊢
 split at h
 ·exact absurd h (Z1H (by decide))
 · rename_i h1
   refine⟨h,Classical.byContradiction λhk=>h1 ⟨h,hk⟩,if_neg h1⟩
theorem Z97{s:List UInt8}(hs:s.length<=65536){run:List Tq->Ps}(h:(Z1a s run).1=0):∃l,Z6D s = .inr l/\Z0C s=Z72 l s.length/\(TqOK (Z0C s)/\TqW (Z0C s)/\PsOK (Z0C s) s0)/\(run (Z0C s)).err=0/\(Z0r (Z0C s) (run (Z0C s))).kind=5/\(Z1a s run).2=(run (Z0C s)).at_:=by
 unfold Z1a at h⊢
 have ht:Z0C s=(match Z6D s with | .inl _=>[] | .inr l=>Z72 l s.length):=rfl
 cases hl:Z6D s with
 |inl e=>rw[hl]at h;exact absurd h (show ¬(4:Int)=0 by decide)
 |inr l =>
  rw[hl]at h ht
  simp only at h ht⊢
  rw[ht]
  obtain⟨a,b,c⟩:=ZjS h
  refine⟨l,rfl,rfl,⟨ZmK hl _,Zcu hl hs _,Zcv hl hs⟩,a,b,by rw[c]⟩
def Zpq{f:Nat}{A:List AV}{R:AV}{H H':Z00}(hb:Z0m Y00 f=true)(h:Z1v Y00 gl f A H R H'):FamM Y00 gl:={ I:=Unit,f:=f,G:=λ_=>True,A:=λ_=>A,H:=λ_=>H,R:=λ_=>R,O:=λ_=>H',body:=hb,inj:=(λ_ _ _ _ _ _=>⟨rfl,rfl⟩),ok:=(λ_ _=>h) }
def Z3W(s:List UInt8):Pr:=⟨(Z2b (Z0C s)).1.1,(Z2b (Z0C s)).1.2⟩
def Z0S(s:List UInt8):(Int×Int)×Pr :=
 if (Z1a s ZcF).1≠0 then (Z1a s ZcF,⟨[],[]⟩) else if Z19 (Z3W s)≠0 then ((Z19 (Z3W s),0),⟨[],[]⟩) else ((0,0),Z3W s)
def Zrl(f:Nat):Bool:=Y03 f 26 || Y03 f 29
theorem ZiJ{T:List Tq}(hT:T.length<=1000000):∀{ts:List (List St)},(∀t∈ts,tOK T t)->ZhI ts
 |[],_=>trivial
 |t::l,h=>by
  have h1:=h t (by simp)
  simp only[ZhI]
  exact⟨h1.1.1,by have:=h1.2;omega,ZiJ hT (λx hx=>h x (by simp[hx]))⟩
theorem Z9b{s:List UInt8}(hs:s.length<=65536)(h:(Z1a s ZcF).1=0):PrF (Z0C s) (Z2b (Z0C s)).1.1 (Z2b (Z0C s)).1.2 (ZcF (Z0C s))/\(Z1a s ZcF).2=0/\PsOK (Z0C s) (ZcF (Z0C s))/\(Z0r (Z0C s) (ZcF (Z0C s))).kind=5:=by
 obtain⟨l,h1,h2,⟨h3,h4,h5⟩,h6,h7,h8⟩:=Z97 hs h
 have hg:PsOK (Z0C s) (ZcF (Z0C s)):=Z3p _ _ _ _ h5
 have hp:=ZfJ h4 ((Z0C s).length+1) h6 hg.lt
 exact⟨hp,h8.trans hp.at0,hg,h7⟩
theorem ZeK{T:List Tq}{D:List Dc}{S:List (List St)}{E:Ps}(h:PrF T D S E)(hg:PsOK T E):okP ⟨D,S⟩/\Z0H S<=1000000:=by
 have h1:=hg.few
 have h2:=hg.lt
 have h3:=h.size
 exact⟨⟨⟨by show D.length<=_;omega,λd hd=>(h.dok d hd).1.2⟩,ZiJ h1 h.tok,by show S.length<=_;omega⟩,by omega⟩
theorem Z9d{s:List UInt8}(hs:s.length<=65536):ValOK Y00 runLives.gl 8 [.str s] (.tuple [(Z0S s).2.av,.agg [.int .i64 (Z0S s).1.1,.int .i64 (Z0S s).1.2]]):=by
 obtain⟨al,cs,ty',hM,hcs,o3⟩:=Zbm (c:=27) (pc:=[.nslice,.nslice]) (pcF:=λT=>[dcN (Z2b T).1.1,Z3Z (Z2b T).1.2]) (ty:=26) (run:=ZcF) hs (by kernel_rfl) (by decide) rfl (λg=>rfl) (λT=>ZoS _ _) (λT g=>ZqE _ _ g)
  (λT hT hW hP=>Zk5 hT ⟨hP,rfl,rfl⟩ (c:=[.nslice,.nslice]) rfl rfl) (λT hW hP he=>⟨Z3p _ _ _ _ hP,(ZfJ hW (T.length+1) he (Z3p _ _ _ _ hP).lt).at0⟩)
 have hΦ : ∀r':AV,(∀sn v,VR sn noI r' v->VR sn noI (.tuple [(Z0S s).2.av,.agg [.int .i64 (Z0S s).1.1,.int .i64 (Z0S s).1.2]]) v)->∀sn v,VR sn noI r' v->VR sn noI (.tuple [(Z0S s).2.av,.agg [.int .i64 (Z0S s).1.1,.int .i64 (Z0S s).1.2]]) v:=λr' h=>h
 by_cases h0:(Z1a s ZcF).1=0
 · obtain⟨rfl,rfl,rfl⟩:=o3 h0
   obtain⟨hF,h2,hg,-⟩:=Z9b hs h0
   have hC:ValOK Y00 runLives.gl 29 [.agg [dcN (Z2b (Z0C s)).1.1,Z3Z (Z2b (Z0C s)).1.2]] (.int .i64 (Z19 (Z3W s))):=(ZaK (Z3W s) (ZeK hF hg).1 (ZeK hF hg).2).weak λsn vs h=>by
    simp only[LR]at h⊢
    obtain⟨d,ds,e,h1,r⟩:=h
    exact⟨d,ds,e,Zn2 h1,r⟩
   have hS:=Z8y (z:=[.nslice,.nslice]) (t0:=26) (t1:=29) hM rfl hcs
   rw[h0,h2]at hS
   obtain⟨O,hO,⟨p1,-⟩,⟨p2,-⟩⟩:=Z25 (P:=Y00) (gl:=runLives.gl) [Zpq (by kernel_rfl) hS] [Z2X (by kernel_rfl) (Zmk (Z2b (Z0C s)).1.1 (Z2b (Z0C s)).1.2) hC] rfl
   have hX:Z0S s=if Z19 (Z3W s)≠0 then ((Z19 (Z3W s),0),⟨[],[]⟩) else ((0,0),Z3W s):=by unfold Z0S;rw[if_neg (by simpa using h0)]
   have q1:Z06 Y00 O [⟨true,0,0,.cells [.nslice,.nslice] 26⟩,⟨true,1,0,.cells [.int .i64 0,.int .i64 0] 29⟩,⟨true,2,0,.cells [.nslice,.nslice] 26⟩] 26 [.str s,.func (.func 27) [] [.ptr 2 0]]=some (.agg [.int .i64 0,.int .i64 0],[⟨true,0,0,.cells [.nslice,.nslice] 26⟩,⟨true,1,0,.cells [.int .i64 0,.int .i64 0] 29⟩,⟨true,2,0,.cells [dcN (Z2b (Z0C s)).1.1,Z3Z (Z2b (Z0C s)).1.2] 26⟩]):=p1 () trivial
   have q2:∀H,Z06 Y00 O H 29 [.agg [dcN (Z2b (Z0C s)).1.1,Z3Z (Z2b (Z0C s)).1.2]]=some (.int .i64 (Z19 (Z3W s)),H):=p2 () trivial
   rw[hX]at hΦ⊢
   clear p1 p2 hX hS hC hM hF hcs o3
   have hpp:Z3W s=⟨(Z2b (Z0C s)).1.1,(Z2b (Z0C s)).1.2⟩:=rfl
   rw[hpp]at hΦ q2⊢
   generalize (Z2b (Z0C s)).1.1=D at *
   generalize (Z2b (Z0C s)).1.2=S at *
   have hc:Z19 ⟨D,S⟩=0\/Z19 ⟨D,S⟩ ≠ 0:=Classical.em _
   generalize Z19 ⟨D,S⟩=c at *
   rcases hc with rfl|hc
   · rw[if_neg (by simp)]at hΦ⊢
     cases D<;>cases S
     all_goals simp only[dcN,Z3Z,dcA]at q1 q2
     all_goals refine fn_valX follows Z05 (Z09 follows Z05 hO 3) hΦ Tryz.func8 rfl (Z0f (isC:=Zrl) 3) ?_
     all_goals repeat' ((conv=>whnf);first|refine exI q1 ?_|refine exI (q2 _) ?_|refine stp ?_|with_reducible apply Z01<;>intro h)
     all_goals exact λsn v h=>Zj9 h
   · rw[if_pos hc]at hΦ⊢
     have e1:(c==0)=false:=by simpa using hc
     have e2:(c != 0)=true:=by simpa using hc
     cases D<;>cases S
     all_goals simp only[dcN,Z3Z,dcA]at q1 q2
     all_goals refine fn_valX follows Z05 (Z09 follows Z05 hO 3) hΦ Tryz.func8 rfl (Z0f (isC:=Zrl) 3) ?_
     all_goals repeat' ((conv=>whnf);first|refine exI q1 ?_|refine exI (q2 _) ?_|refine stp ?_|with_reducible apply Z01<;>intro h)
     all_goals exact λsn v h=>Zj9 (D:=[]) (S:=[]) h
 · have hX:Z0S s=(Z1a s ZcF,⟨[],[]⟩):=by unfold Z0S;rw[if_pos h0]
   rw[hX]at hΦ⊢
   have hS:=Z8y (z:=[.nslice,.nslice]) (t0:=26) (t1:=29) hM rfl hcs
   obtain⟨O,hO,⟨p1,-⟩,-⟩:=Z25 (P:=Y00) (gl:=runLives.gl) [Zpq (by kernel_rfl) hS] [] rfl
   have q1:Z06 Y00 O [⟨true,0,0,.cells [.nslice,.nslice] 26⟩,⟨true,1,0,.cells [.int .i64 0,.int .i64 0] 29⟩,⟨true,2,0,.cells [.nslice,.nslice] 26⟩] 26 [.str s,.func (.func 27) [] [.ptr 2 0]]=some (.agg [.int .i64 (Z1a s ZcF).1,.int .i64 (Z1a s ZcF).2],[⟨true,0,0,.cells [.nslice,.nslice] 26⟩,⟨true,1,0,.cells [.int .i64 0,.int .i64 0] 29⟩,⟨al,2,0,.cells cs ty'⟩]):=p1 () trivial
   clear p1 o3 hM hS
   generalize Z1a s ZcF=F at *
   obtain⟨e,a⟩:=F
   simp only at h0 q1⊢
   have e1:(e==0)=false:=by simpa using h0
   have e2:(e != 0)=true:=by simpa using h0
   cases al<;>refine fn_valX follows Z05 (Z09 follows Z05 hO 3) hΦ Tryz.func8 rfl (Z0f (isC:=Zrl) 3) ?_
   all_goals repeat' ((conv=>whnf);first|refine exI q1 ?_|refine stp ?_|with_reducible apply Z01<;>intro h)
   all_goals exact λsn v h=>Zj9 (D:=[]) (S:=[]) h
end
section
variable {gl:Z0k}
def Z2M(T:List Tq):Ex×Ps:=Z0D T s0
def ZgW(T:List Tq):Ps:=(Z2M T).2
theorem Z9E{s:List UInt8}(hs:s.length<=65536)(h:(Z1a s ZgW).1=0):VE (Z2M (Z0C s)).1/\(Z1a s ZgW).2=0/\Z0A (Z2M (Z0C s)).1<=1000000:=by
 obtain⟨l,h1,h2,⟨h3,h4,h5⟩,h6,h7,h8⟩:=Z97 hs h
 have hg:=Z2i (s:=s0) h5
 have f:=Z6L h4 s0
 obtain⟨f1,f2,f3,f4,f5,f6,f7⟩:=f.1.2 h6 hg.ok.lt
 refine⟨f.2 h6 hg.ok.lt,h8.trans f6,?_⟩
 have:=hg.ok.few
 have:=hg.ok.lt
 have:s0.i=0:=rfl
 show Z0A (Z0D (Z0C s) s0).1<=_
 omega
theorem Zns{sn:Z0o}{z:Nat}{v:Value}(h:VR sn noI .nslice v):VR sn noI (.rs 0 z []) v:=by simp only[VR]at h⊢;exact .inl ⟨trivial,trivial,h⟩
def Z26(s:List UInt8):(Int×Int)×Ex :=
 if (Z1a s ZgW).1≠0 then (Z1a s ZgW,ex0) else if Z2V (Z2M (Z0C s)).1≠0 then ((Z2V (Z2M (Z0C s)).1,0),ex0) else ((0,0),(Z2M (Z0C s)).1)
theorem ZoQ{sn:Z0o}{v:Value}{x:AV}(h:VR sn noI (.tuple [.agg [.int .i64 0,.int .i64 0,.str [],.nslice],x]) v):VR sn noI (.tuple [.agg ex0.cells,x]) v:=by
 simp only[VR,LR]at h⊢
 obtain⟨ds,e,d,l,e1,⟨a,a1,v0,l0,b1,c1,v1,l1,b2,c2,v2,l2,b3,c3,v3,l3,b4,c4,r⟩,h2⟩:=h
 refine⟨ds,e,d,l,e1,⟨a,a1,v0,l0,b1,c1,v1,l1,b2,c2,v2,l2,b3,c3,v3,l3,b4,?_,r⟩,h2⟩
 exact Zns c4
theorem ZoP(e:Ex):refsL e.cells []=[]:=by obtain⟨o,n,s,k⟩:=e;rfl
theorem ZqD(e:Ex)(g:Nat->Nat):renL g e.cells=e.cells:=by obtain⟨o,n,s,k⟩:=e;rfl
theorem Zmh(e:Ex):refsL [.agg e.cells] []=[]:=by obtain⟨o,n,s,k⟩:=e;rfl
def Zrm(f:Nat):Bool:=Y03 f 26 || Y03 f 38
theorem Zgc{s:List UInt8}(hs:s.length<=65536):ValOK Y00 runLives.gl 15 [.str s] (.tuple [.agg (Z26 s).2.cells,.agg [.int .i64 (Z26 s).1.1,.int .i64 (Z26 s).1.2]]):=by
 obtain⟨al,cs,ty',hM,hcs,o3⟩:=Zbm (c:=36) (pc:=[.int .i64 0,.int .i64 0,.str [],.nslice]) (pcF:=λT=>(Z2M T).1.cells) (ty:=47) (run:=ZgW) hs (by kernel_rfl) (by decide) rfl (λg=>rfl) (λT=>ZoP _) (λT g=>ZqD _ g)
  (λT hT hW hP=>Zmr hT ⟨hP,rfl,rfl⟩ (c:=[.int .i64 0,.int .i64 0,.str [],.nslice]) rfl) (λT hW hP he=>⟨(Z2i hP).ok,((Z6L hW s0).1.2 he (Z2i hP).ok.lt).2.2.2.2.2.1⟩)
 have hΦ : ∀r':AV,(∀sn v,VR sn noI r' v->VR sn noI (.tuple [.agg (Z26 s).2.cells,.agg [.int .i64 (Z26 s).1.1,.int .i64 (Z26 s).1.2]]) v)->∀sn v,VR sn noI r' v->VR sn noI (.tuple [.agg (Z26 s).2.cells,.agg [.int .i64 (Z26 s).1.1,.int .i64 (Z26 s).1.2]]) v:=λr' h=>h
 by_cases h0:(Z1a s ZgW).1=0
 · obtain⟨rfl,rfl,rfl⟩:=o3 h0
   obtain⟨hV,h2,hz⟩:=Z9E hs h0
   have hC:=Zhr (Z2M (Z0C s)).1 hV.1 (by omega)
   have hS:=Z8y (z:=[.int .i64 0,.int .i64 0,.str [],.nslice]) (t0:=47) (t1:=29) hM rfl hcs
   rw[h0,h2]at hS
   obtain⟨O,hO,⟨p1,-⟩,⟨p2,-⟩⟩:=Z25 (P:=Y00) (gl:=runLives.gl) [Zpq (by kernel_rfl) hS] [Z2X (by kernel_rfl) (Zmh (Z2M (Z0C s)).1) hC] rfl
   have hX:Z26 s=if Z2V (Z2M (Z0C s)).1≠0 then ((Z2V (Z2M (Z0C s)).1,0),ex0) else ((0,0),(Z2M (Z0C s)).1):=by unfold Z26;rw[if_neg (by simpa using h0)]
   have q1:Z06 Y00 O [⟨true,0,0,.cells [.int .i64 0,.int .i64 0,.str [],.nslice] 47⟩,⟨true,1,0,.cells [.int .i64 0,.int .i64 0] 29⟩,⟨true,2,0,.cells [.int .i64 0,.int .i64 0,.str [],.nslice] 47⟩] 26 [.str s,.func (.func 36) [] [.ptr 2 0]]=some (.agg [.int .i64 0,.int .i64 0],[⟨true,0,0,.cells [.int .i64 0,.int .i64 0,.str [],.nslice] 47⟩,⟨true,1,0,.cells [.int .i64 0,.int .i64 0] 29⟩,⟨true,2,0,.cells (Z2M (Z0C s)).1.cells 47⟩]):=p1 () trivial
   have q2:∀H,Z06 Y00 O H 38 [.agg (Z2M (Z0C s)).1.cells]=some (.int .i64 (Z2V (Z2M (Z0C s)).1),H):=p2 () trivial
   rw[hX]at hΦ⊢
   clear p1 p2 hX hS hC hM hcs o3 hV hz
   generalize (Z2M (Z0C s)).1=e at *
   have hc:Z2V e=0\/Z2V e≠0:=Classical.em _
   generalize Z2V e=c at *
   obtain⟨eo,en,es,ek⟩:=e
   simp only[Ex.cells]at q1 q2
   rcases hc with rfl|hc
   · rw[if_neg (by simp)]at hΦ⊢
     refine fn_valX follows Z05 (Z09 follows Z05 hO 3) hΦ Tryz.func15 rfl (Z0f (isC:=Zrm) 3) ?_
     repeat' ((conv=>whnf);first|refine exI q1 ?_|refine exI (q2 _) ?_|refine stp ?_|with_reducible apply Z01<;>intro h)
     all_goals exact λsn v h=>h
   · rw[if_pos hc]at hΦ⊢
     have e1:(c==0)=false:=by simpa using hc
     have e2:(c != 0)=true:=by simpa using hc
     refine fn_valX follows Z05 (Z09 follows Z05 hO 3) hΦ Tryz.func15 rfl (Z0f (isC:=Zrm) 3) ?_
     repeat' ((conv=>whnf);first|refine exI q1 ?_|refine exI (q2 _) ?_|refine stp ?_|with_reducible apply Z01<;>intro h)
     all_goals exact λsn v h=>ZoQ h
 · have hX:Z26 s=(Z1a s ZgW,ex0):=by unfold Z26;rw[if_pos h0]
   rw[hX]at hΦ⊢
   have hS:=Z8y (z:=[.int .i64 0,.int .i64 0,.str [],.nslice]) (t0:=47) (t1:=29) hM rfl hcs
   obtain⟨O,hO,⟨p1,-⟩,-⟩:=Z25 (P:=Y00) (gl:=runLives.gl) [Zpq (by kernel_rfl) hS] [] rfl
   have q1:Z06 Y00 O [⟨true,0,0,.cells [.int .i64 0,.int .i64 0,.str [],.nslice] 47⟩,⟨true,1,0,.cells [.int .i64 0,.int .i64 0] 29⟩,⟨true,2,0,.cells [.int .i64 0,.int .i64 0,.str [],.nslice] 47⟩] 26 [.str s,.func (.func 36) [] [.ptr 2 0]]=some (.agg [.int .i64 (Z1a s ZgW).1,.int .i64 (Z1a s ZgW).2],[⟨true,0,0,.cells [.int .i64 0,.int .i64 0,.str [],.nslice] 47⟩,⟨true,1,0,.cells [.int .i64 0,.int .i64 0] 29⟩,⟨al,2,0,.cells cs ty'⟩]):=p1 () trivial
   clear p1 o3 hM hS
   generalize Z1a s ZgW=F at *
   obtain⟨e,a⟩:=F
   simp only at h0 q1⊢
   have e1:(e==0)=false:=by simpa using h0
   have e2:(e != 0)=true:=by simpa using h0
   cases al<;>refine fn_valX follows Z05 (Z09 follows Z05 hO 3) hΦ Tryz.func15 rfl (Z0f (isC:=Zrm) 3) ?_
   all_goals repeat' ((conv=>whnf);first|refine exI q1 ?_|refine stp ?_|with_reducible apply Z01<;>intro h)
   all_goals exact λsn v h=>ZoQ h
end
section
variable {gl:Z0k}
def Zsx(f:Nat):Bool:=Y03 f 40 || Y03 f 41
def spS(id n:Nat):Option Nat:=match Y03 id 1&&Y03 n 9 with|true=>some 6|false=>none
theorem Zk4 {T : List Tq} (hT : TqOK T) {s0 : Ps} (hg0 : GOK T s0) {RL : List St} {RS : Ps} (hR : Z20 T (Z1D T) [] (T.length + 1) s0 = (RL, RS)) :
  MemX Y00 gl (XF RS) 39 [.ptr 0 0,.ptr 11 0] (gB T s0++[⟨true,11,0,.cells [.nslice] 53⟩]) (.tuple []) (gB T RS++[⟨true,11,0,.cells [stN RL] 53⟩]):=by
 refine memx_same (k:=12) ?_ rfl rfl Zkc
 have hTy:Zcj Y00 53 53=some (58,7,120):=by kernel_rfl
 obtain⟨O,hO,⟨p1,p2,-⟩,-⟩:=Z2w (P:=Y00) (gl:=gl) (XF RS) [ZeB T,Zjb T 0 (Z1D T) (Zja hT)] [] rfl
 refine Zm5 Zsx 3 spS follows Z05 hO Tryz.func39 rfl ?_
 rw (occs:=.pos [1]) [Z0c hg0.er]
 simp only[gL,LV,Y0r,Y0G]
 repeat' ((conv=>whnf);first|(exact Or.inl rfl)|(refine Or.inr ?_)|refine stp ?_|with_reducible apply Z01<;>intro h)
 conv=>whnf
 have hfew:=hg0.ok.few
 refine⟨Bs4,(λy=>GOK T y.s/\y.l.length+y.k<=T.length+1/\T.length-y.s.i<y.k/\y.l++(Z20 T (Z1D T) [] y.k y.s).1=RL/\(Z20 T (Z1D T) [] y.k y.s).2=RS),(λy=>[(0,.ptr 0 0),(1,.ptr 11 0)]),
  (λy=>gL T y.s.i y.s.op++(⟨true,11,0,.cells [Z5T 12 y.l] 53⟩::Zbh 12 y.l)),(λy=>y.k),⟨⟨[],s0,T.length+1⟩,⟨hg0,by simp,by show T.length-s0.i<T.length+1;omega,by rw[hR];rfl,by rw[hR]⟩,?_⟩,?_⟩
 · refine FgLK.mk [0,1,2,3,4,5,6,7,8,9,10,11] rfl rfl ?_ ?_ rfl
   ·exact wks
   ·refine Z1o (l:=[11]) (X':=[_]) ?_ ?_ ⟨hbp,trivial⟩<;>rfl
 clear hR hg0
 rintro⟨l,s,k⟩ ⟨hs,hlk,hk,hL,hS⟩
 dsimp only at hs hlk hk hL hS
 (try dsimp only)
 obtain⟨k,rfl⟩:∃k',k=k'+1:=⟨k-1,by omega⟩
 have qn:=λX hX=>Zs1 p1 hs (X:=X) hX
 have hlt:=hs.ok.lt
 have her:=hs.er
 have hcl:(stC l).length=l.length*7:=Z4F _
 by_cases h5:(Z0r T s).kind=5
 · have hst:=Z6f (T:=T) (stm:=Z1D T) (w:=[]) (s:=s) (λh=>h.2.2 h5) (k+1)
   rw[hst]at hL hS
   simp only[Y0c]at hL hS
   subst hL hS
   clear p1 p2
   generalize Z0r T s=t at *
   obtain⟨kd,tx,nm,ps⟩:=t
   simp only at h5
   subst h5
   simp only[gL,LV,Tq.cells,Y0r,Y0G]at qn⊢
   rcases l with _|⟨a,l⟩
   all_goals simp only[Z5T,Zbh,stN]
   all_goals repeat' ((conv=>whnf);first|(refine Or.inr ?_)|refine exI (qn _ rfl) ?_|refine stp ?_|with_reducible apply Z01<;>intro h)
   all_goals (conv=>whnf)
   ·exact⟨[],[0,1,2,3,4,5,6,7,8,9,10,11],rfl,(Zg6 her rfl rfl ⟨⟨rfl,rfl,rfl,rfl,BodyGe.z (Y0e (rest:=[]) rfl rfl)⟩,trivial⟩),rfl,rfl,.inl (Y04 rfl)⟩
   ·exact⟨[12],[0,1,2,3,4,5,6,7,8,9,10,11],rfl,(Zg6 her rfl rfl ⟨⟨rfl,rfl,rfl,rfl,BodyGeZ.app (cs:=[]) rfl ⟨.inr (Z0B (n:=28) rfl hcl (Z3G _)),trivial⟩⟩,trivial⟩),rfl,rfl,.inl (Y04 rfl)⟩
 · have hne : isF T s [] = false := by
    cases h:isF T s [] with
    |false=>rfl
    |true =>
     have h1:=Z1G h
     have h2:=hT.sg s.i hlt
     have h3:=hT.ky s.i hlt
     rw[<- Z0t hlt]at h2 h3
     unfold isF at h
     simp only[Y07,Y0A,beq_iff_eq]at h
     rcases h.2.1 with h4|h4
     ·exact absurd h1 (h2 h4).2
     · have:=h3 h4
       rw[h1]at this
       cases this
   have hst:Z20 T (Z1D T) [] (k+1) s=((Z1D T s).1::(Z20 T (Z1D T) [] k (Z1D T s).2).1,(Z20 T (Z1D T) [] k (Z1D T s).2).2):=by
    rw[Z20,if_pos ⟨hs.er,hne,h5⟩]
   rw[hst]at hL hS
   simp only at hL hS
   have e5:((Z0r T s).kind != 5)=true:=by simpa using h5
   have hg:=((Z6h (gl:=gl) T) s hs.ok (Y05 _)).1
   have kr2:=Z34 T T.length s
   have kr3:=Z8W (T:=T) (Z34 T T.length) [] k (Z1D T s).2
   rw[show Z20 T (Z5R T T.length) [] k (Z1D T s).2=Z20 T (Z1D T) [] k (Z1D T s).2 from rfl,hS]at kr3
   have qs:∀X,Z08 Z0z X=true->Z06 Y00 O (gL T s.i s.op++X) 41 [.ptr 0 0]=some (.agg (Z1D T s).1.cells,gB T (Z1D T s).2++X):=λX hX=>Z4Z p2 () s X hs ⟨hs,Y05 _⟩ kr3.x hX
   have ho:=λhe=>hs.go hg.1 kr2 he
   have hlt2:=hg.2
   clear p1 p2 hst kr2 kr3 hg
   generalize Z1D T s=r at *
   obtain⟨⟨y1,y2,y3,y4,y5,y6,y7⟩,s2⟩:=r
   generalize Z0r T s=t at *
   obtain⟨kd,tx,nm,ps⟩:=t
   simp only[gL,LV,Tq.cells,St.cells,exA,Y0r,Y0G]at qn qs ho hlt2 hL hS e5⊢
   rcases l with _|⟨a,l⟩
   · simp only[Z5T,Zbh]
     repeat' ((conv=>whnf);first|(exact Or.inl rfl)|(refine Or.inr ?_)|refine exI (qn _ rfl) ?_|(refine exG (qs _ rfl) (λhd=>?_) (λe1=>?_))|(refine apS ?_)|(exact True.intro)|refine stp ?_|with_reducible apply Z01<;>intro h|(refine Y0d ?_ ?_))
     all_goals (conv=>whnf)
     all_goals refine⟨⟨[.mk y1 y2 y3 y4 y5 y6 y7],s2,k⟩,⟨ho e1,by simp at hlk⊢;omega,by have:=hlt2 e1;simp only at this⊢;omega,by simpa using hL,hS⟩,Nat.lt_succ_self _,?_⟩
     all_goals refine FgLK.mk [0,1,2,3,4,5,6,7,8,9,10,11,13] rfl rfl ?_ ?_ rfl
     all_goals first
      |(refine Z1o (l:=[11,13]) (X':=[_,_]) ?_ ?_ ⟨⟨rfl,rfl,rfl,rfl,Y0a (by (try dsimp only[Z5T,Y0g,Y09]);exact wks)⟩,⟨rfl,rfl,rfl,rfl,Z07 rfl (Z3G [.mk y1 y2 y3 y4 y5 y6 y7])⟩,trivial⟩<;>rfl)
      |((try dsimp only[Z5T,Y0g]);exact wks)
   · simp only[Y09]at hlk hcl
     have hsp:∀off,off=(l.length+1)*7->spl (stC (a::l)++[.int .i64 0,.str [],.str [],.int .i64 0,.nslice,.nslice,.nslice]) off [.int .i64 y1,.str y2,.str y3,.int .i64 y4,.rs y5.length 4 (exC y5),.rs y6.length 7 (stC y6),.rs y7.length 7 (stC y7)]=some (stC (a::l)++[.int .i64 y1,.str y2,.str y3,.int .i64 y4,.rs y5.length 4 (exC y5),.rs y6.length 7 (stC y6),.rs y7.length 7 (stC y7)]):=by
      rintro off rfl
      have h:=Zr8 (stC (a::l)) [.int .i64 0,.str [],.str [],.int .i64 0,.nslice,.nslice,.nslice] [] [.int .i64 y1,.str y2,.str y3,.int .i64 y4,.rs y5.length 4 (exC y5),.rs y6.length 7 (stC y6),.rs y7.length 7 (stC y7)] rfl
      rw[hcl]at h
      simpa using h
     have hsn:=Zen (a::l) y1 y4 y2 y3 y5 y6 y7
     have hl1:(l++[St.mk y1 y2 y3 y4 y5 y6 y7]).length=l.length+1:=by simp
     simp only[Z5T,Zbh]
     repeat' ((conv=>whnf);first|(exact Or.inl rfl)|(refine Or.inr ?_)|refine exI (qn _ rfl) ?_|(refine exG (qs _ rfl) (λhd=>?_) (λe1=>?_))|(refine apS ?_)|(exact True.intro)|refine exI (hsp _ (by omega)) ?_|refine stp ?_|with_reducible apply Z01<;>intro h|(refine Y0d ?_ ?_))
     all_goals (conv=>whnf)
     all_goals refine⟨⟨a::(l++[.mk y1 y2 y3 y4 y5 y6 y7]),s2,k⟩,⟨ho e1,by simp only[Y09,hl1];omega,by have:=hlt2 e1;simp only at this⊢;omega,by rw[<- hL];simp,hS⟩,Nat.lt_succ_self _,?_⟩
     all_goals refine FgLK.mk [0,1,2,3,4,5,6,7,8,9,10,11,14] rfl rfl ?_ ?_ rfl
     all_goals first
      |(refine Z1o (l:=[11,14]) (X':=[_,_]) ?_ ?_ ⟨⟨rfl,rfl,rfl,rfl,Y0a (by (try dsimp only[Z5T,Y0g,Y09]);exact wks)⟩,⟨rfl,rfl,rfl,rfl,Z07 hsn (Z3G _)⟩,trivial⟩<;>rfl)
      |((try dsimp only[Z5T,Y0g]);exact wks)
end
section
open Classical in
theorem Zg7 {P : Program} {gl : Z0k} {O : Orc} (hO : OrcSound P gl O) {f0 : Nat} {A0 : List AV} {r0 : AV} (hr : plain r0 = true) (hv : ValOK P gl f0 A0 r0) (hb : Z0m P f0 = true) : ∃ O', OrcSound P gl O' /\ (∀ H args, Z3a (frz H 30) args = some A0 -> Z06 P O' H f0 args = some (r0, H)) /\
  ∀g,g≠f0->∀args H,Z06 P O' H g args=Z06 P O H g args:=by
 have hz:OrcSound P gl (Z6v λf args=>if f=f0/\args=A0 then some r0 else none):=Z0J λf args r h=>by
  split at h
  · rename_i e
    obtain⟨rfl,rfl⟩:=e
    cases h
    exact⟨hr,hv⟩
  ·cases h
 refine⟨Z2t (Z6v λf args=>if f=f0/\args=A0 then some r0 else none) O,Z1E hz hO,λH args ha=>callOr1 hb (Z1d hb ha (if_pos ⟨rfl,rfl⟩)),λg hg args H=>?_⟩
 unfold Z06
 have h1:Z2t (Z6v λf args=>if f=f0/\args=A0 then some r0 else none) O g=O g:=by
  funext args H
  unfold Z2t Z6v
  cases Z3a (frz H 30) args with
  |none=>rfl
  |some fa=>simp only;rw[if_neg (λh=>hg h.1)]
 have hy:yl (Z2t (Z6v λf args=>if f=f0/\args=A0 then some r0 else none) O) H g args=yl O H g args:=by unfold yl;simp only[h1]
 rw[h1,hy]
end
section
variable {gl:Z0k}
theorem Zfu{sn:Z0o}{v:Value}{x:AV}(h:VR sn noI (.tuple [.nslice,x]) v):VR sn noI (.tuple [stA [],x]) v:=by
 simp only[VR,LR]at h⊢
 obtain⟨ds,e,d,l,e1,h1,h2⟩:=h
 exact⟨ds,e,d,l,e1,Z2o (by simpa only[VR]using h1),h2⟩
end
section
theorem Zq2{o:Int}{x y:Ex}(hx:okE x)(hy:okE y):okE (.mk o 0 [] [x,y]):=by
 simp only[okE,okL,okN];exact⟨⟨by decide,by show 2<=_;decide⟩,hx,hy,trivial⟩
theorem Zes:okE ex0:=by simp only[ex0,okE,okL,okN];exact⟨⟨by decide,by decide⟩,trivial⟩
theorem Zep{T:List Tq}{rec1:Ps->Ex×Ps}(hrec:∀s,okE (rec1 s).1):∀(l:List (List UInt8×Int))(x:Ex)(s:Ps)(a:Bool),okE x->okE (Z1s T rec1 l x s a).1
 |[],x,s,a,h=>h
 |(w,o)::l,x,s,a,h=>by
  unfold Z1s
  split
  ·exact Zep hrec l _ _ _ (Zq2 h (hrec _))
  ·exact Zep hrec l _ _ _ h
theorem ZiP{T:List Tq}{rec1:Ps->Ex×Ps}(hrec:∀s,okE (rec1 s).1)(l:List (List UInt8×Int)):∀(k:Nat)(x:Ex)(s:Ps),okE x->okE (Z24 T rec1 l k x s).1
 |0,x,s,h=>h
 |k+1,x,s,h=>by
  unfold Z24
  have h1:=Zep (T:=T) hrec l x s false h
  split
  ·exact ZiP hrec l k _ _ h1
  ·exact h1
theorem Zgy{T:List Tq}{un:Ps->Ex×Ps}(hun:∀s,okE (un s).1):∀(m:Nat)(s:Ps),okE (Z3A T un m s).1
 |0,s=>hun s
 |m+1,s=>by
  unfold Z3A
  exact ZiP (λt=>Zgy hun m t) _ _ _ _ (Zgy hun m s)
theorem Zkl{T:List Tq}(hT:TqW T){ex:Ps->Ex×Ps}(hex:∀t,okE (ex t).1)(s:Ps):okE (Z1m T ex s).1:=by
 unfold Z1m
 split
 ·exact Zes
 split
 ·simp only[okE,okL,okN];exact⟨⟨by decide,by decide⟩,trivial⟩
 split
 · rename_i hk
   simp only[okE,okL,okN];exact⟨⟨(Zb9 hT hk).2,by decide⟩,trivial⟩
 split
 ·exact hex _
 ·exact Zes
theorem Ze3{T:List Tq}(hT:TqW T):∀(d:Nat)(s:Ps),okE (unF T d s).1
 |0,s=>Zes
 |d+1,s=>by
  unfold unF
  split
  ·exact Zkl hT (λt=>Zgy (λu=>Ze3 hT d u) 9 t) s
  split
  ·exact Zes
  · simp only[okE,okL,okN]
    exact⟨⟨by decide,by show 1<=_;decide⟩,Ze3 hT d _,trivial⟩
theorem Z3e{T:List Tq}(hT:TqW T)(s:Ps):okE (Z0D T s).1:=Zgy (λu=>Ze3 hT T.length u) 9 s
theorem ZjI{T:List Tq}(hT:TqW T):∀(n:Nat)(s:Ps),okL (Z3J T n s).1/\(Z3J T n s).1.length=n
 |0,s=>⟨trivial,rfl⟩
 |n+1,s=>by
  obtain⟨a,b⟩:=ZjI hT n (Z0D T (Z03 T s [44])).2
  simp only[Z3J,okL,Y09]
  exact⟨⟨Z3e hT _,a⟩,by rw[b]⟩
theorem Z6b{T:List Tq}(hT:TqW T)(s:Ps):(Z0Z T s).length<=9223372036854775807:=by
 unfold Z0Z
 split
 · rename_i h
   unfold Z1Q at h
   simp only[Y07,beq_iff_eq]at h
   exact (Zb9 hT h.2).2
 ·exact Y05 _
theorem Z7i{k:Int}{nm lc:List UInt8}{o:Int}{x:List Ex}(hn:nm.length<=9223372036854775807)(hl:lc.length<=9223372036854775807)(hx:okL x)(hlen:x.length<=2):okS (.mk k nm lc o x [] []):=by
 simp only[okS,okN,okSL];exact⟨⟨hn,by omega⟩,⟨hl,by decide⟩,by decide,hx,trivial,trivial⟩
theorem ZdD{T:List Tq}(hT:TqW T)(s:Ps){nm:List UInt8}(hn:nm.length<=9223372036854775807)(k:Int){n:Nat}(h2:n<=2):okS (Z2H T nm k n s).1:=by
 simp only[Z2H]
 obtain⟨a,b⟩:=ZjI hT n (Z0e T (Z03 T s [40]))
 exact Z7i hn (Z6b hT _) a (by omega)
theorem Zet{e:Ex}(h:okE e):okL [e]:=by simp only[okL];exact⟨h,trivial⟩
theorem Zl6{T:List Tq}(hT:TqW T)(s:Ps){nm:List UInt8}(hn:nm.length<=9223372036854775807):okS (Z3D T nm s).1:=by
 unfold Z3D
 split;exact ZdD hT _ hn _ (by omega)
 split;exact ZdD hT _ hn _ (by omega)
 split;exact ZdD hT _ hn _ (by omega)
 split;exact ZdD hT _ hn _ (by omega)
 exact Z7i hn (by decide) (Zet (Z3e hT s)) (by show 1<=2;decide)
theorem Zij{T:List Tq}(hT:TqW T)(s:Ps):okS (Z1w T s).1:=by
 unfold Z1w
 split;exact ZdD hT _ (by decide) _ (by omega)
 split;exact Z7i (by decide) (by decide) trivial (by decide)
 split;exact Z7i (by decide) (by decide) (Zet (Z3e hT _)) (by show 1<=2;decide)
 split;exact Z7i (by decide) (by decide) (Zet (Z3e hT _)) (by show 1<=2;decide)
 exact Zl6 hT _ (Z6b hT _)
theorem Z8t{T:List Tq}{stm:Ps->St×Ps}(hs:∀s,okS (stm s).1)(w:List UInt8):∀(k:Nat)(s:Ps),okSL (Z20 T stm w k s).1/\(Z20 T stm w k s).1.length<=k
 |0,s=>⟨trivial,Y01 _⟩
 |k+1,s=>by
  unfold Z20
  split
  · obtain⟨a,b⟩:=Z8t hs w k (stm s).2
    simp only[okSL,Y09]
    exact⟨⟨hs s,a⟩,by omega⟩
  ·exact⟨trivial,Y05 _⟩
theorem Zgv{T:List Tq}(hT:TqW T){stm:Ps->St×Ps}(hs:∀s,okS (stm s).1)(s:Ps):okSL (Z9M T stm s).1/\(Z9M T stm s).1.length<=1000001:=by
 obtain⟨a,b⟩:=Z8t (T:=T) hs [125] (T.length+1) (Z03 T s [123])
 exact⟨a,by have:=hT.few;show (Z20 T stm [125] (T.length+1) (Z03 T s [123])).1.length<=_;omega⟩
theorem ZiK{k:Int}{x:Ex}{t e:List St}(hx:okE x)(ht:okSL t/\t.length<=1000001)(he:okSL e/\e.length<=1000001):okS (.mk k [] [] 0 [x] t e):=by
 simp only[okS,okN,okL];exact⟨⟨by decide,by show 1<=_;decide⟩,⟨by decide,by omega⟩,by omega,⟨hx,trivial⟩,ht.1,he.1⟩
theorem Z8u{T:List Tq}(hT:TqW T):∀(d:Nat)(s:Ps),okS (Z5R T d s).1
 |0,s=>Z7i (by decide) (by decide) trivial (by decide)
 |d+1,s=>by
  have ih:=Z8u hT d
  have hb:=λt=>Zgv hT ih t
  unfold Z5R Z3n
  split
  · unfold Zch
    refine ZiK (Z3e hT _) (hb _) ?_
    unfold Z9Z
    split
    · split
      ·exact⟨by simp only[okSL];exact⟨ih _,trivial⟩,by show 1<=_;decide⟩
      ·exact hb _
    ·exact⟨trivial,Y05 _⟩
  split
  ·exact ZiK (Z3e hT _) (hb _) ⟨trivial,Y05 _⟩
  ·exact Zij hT s
end
section
theorem ZpE{sn:Z0o}{z:Nat}{v:Value}(h:VR sn noI .nslice v):VR sn noI (.rs 0 z []) v:=by simp only[VR]at h⊢;exact .inl ⟨trivial,trivial,h⟩
def Nv(u u2:AV):Prop:=∀(sn:Z0o)(v:Value),VR sn noI u v->VR sn noI u2 v
def NvL:List AV->List AV->Prop
 |[],[]=>True
 |a::l,b::l2=>Nv a b/\NvL l l2
 |_,_=>False
theorem Nv.same{u:AV}:Nv u u:=λ_ _ h=>h
theorem Nv.nil{z:Nat}:Nv .nslice (.rs 0 z []):=λ_ _ h=>ZpE h
theorem NvL.mr{sn:Z0o}{b:Nat}:∀{l l2:List AV}{o:Nat},NvL l l2->MR sn l b o->MR sn l2 b o
 |[],[],o,_,h=>h
 |a::l,c::l2,o,h,k=>by
  simp only[MR]at k⊢
  obtain⟨⟨v,k1,k2⟩,k3⟩:=k
  exact⟨⟨v,k1,h.1 _ _ k2⟩,NvL.mr h.2 k3⟩
 |[],_::_,_,h,_=>h.elim
 |_::_,[],_,h,_=>h.elim
theorem NvL.lr{sn:Z0o}:∀{l l2:List AV}{vs:List Value},NvL l l2->LR sn noI l vs->LR sn noI l2 vs
 |[],[],_,_,h=>h
 |a::l,c::l2,vs,h,k=>by
  simp only[LR]at k⊢
  obtain⟨d,ds,e,k1,k2⟩:=k
  exact⟨d,ds,e,h.1 _ _ k1,NvL.lr h.2 k2⟩
 |[],_::_,_,h,_=>h.elim
 |_::_,[],_,h,_=>h.elim
theorem Nv.rs{n z:Nat}{l l2:List AV}(h:NvL l l2)(e:l2.length=l.length):Nv (.rs n z l) (.rs n z l2):=λsn v k=>by
 simp only[VR]at k⊢
 rcases k with ⟨k1,rfl,k3⟩|⟨a,cap,k1,k2,k3,k4,k5⟩
 ·exact .inl ⟨k1,List.length_eq_zero_iff.1 e,k3⟩
 ·exact .inr ⟨a,cap,k1,k2,by omega,NvL.mr h k4,k5⟩
theorem Nv.agg{l l2:List AV}(h:NvL l l2):Nv (.agg l) (.agg l2):=λsn v k=>by
 simp only[VR]at k⊢
 obtain⟨d,k1,k2⟩:=k
 exact⟨d,k1,NvL.lr h k2⟩
end
section
variable {gl:Z0k}
def Z1h(T:List Tq):List St×Ps:=Z20 T (Z1D T) [] (T.length+1) s0
def Zem(T:List Tq):Ps:=(Z1h T).2
theorem Z6g{T:List Tq}(h:PsOK T s0):PsGo T s0 (Zem T) :=
 stsF_go (T:=T) (i0:=0) (stm:=Z1D T) (λs h _=>(Z6h (gl:=λ_=>none) T s h (Y05 _)).1.1) [] (T.length+1) s0 h (Y05 _)
theorem Z78{s:List UInt8}(hs:s.length<=65536)(h:(Z1a s Zem).1=0):(okSL (Z1h (Z0C s)).1/\rightSL (Z1h (Z0C s)).1=true)/\(Z1a s Zem).2=0/\sizeSL (Z1h (Z0C s)).1<=1000000/\(Z1h (Z0C s)).1.length<=1000001:=by
 obtain⟨l,h1,h2,⟨h3,h4,h5⟩,h6,h7,h8⟩:=Z97 hs h
 have hg:=Z6g h5
 have f:=Zbd (T:=Z0C s) (i0:=0) (λu _=>Zbe h4 u) [] ((Z0C s).length+1) s0 (Y05 _)
 obtain⟨f1,f2,f3,f4,f5,f6,f7⟩:=f.1.2 h6 hg.ok.lt
 have hfew:=hg.ok.few
 have hlt:=hg.ok.lt
 have e0:s0.i=0:=rfl
 refine⟨f.2 h6 hg.ok.lt,h8.trans f6,?_,?_⟩
 · have hf2:s0.i+sizeSL (Z1h (Z0C s)).1<=(Zem (Z0C s)).i:=f2
   omega
 · have:=(Z8t (T:=Z0C s) (λt=>Z8u h4 (Z0C s).length t) [] ((Z0C s).length+1) s0).2
   show (Z20 (Z0C s) (Z5R (Z0C s) (Z0C s).length) [] ((Z0C s).length+1) s0).1.length<=_
   omega
def Z17(s:List UInt8):(Int×Int)×List St :=
 if (Z1a s Zem).1≠0 then (Z1a s Zem,[]) else if Z19 ⟨[],[(Z1h (Z0C s)).1]⟩ ≠ 0 then ((Z19 ⟨[],[(Z1h (Z0C s)).1]⟩,0),[]) else ((0,0),(Z1h (Z0C s)).1)
theorem Zo1(t:List St)(hok:okSL t)(ht:t.length<=9223372036854775807)(hs:sizeSL t<=1000000):ValOK Y00 runLives.gl 29 [.agg [.nslice,.rs 1 1 [stN t]]] (.int .i64 (Z19 ⟨[],[t]⟩)):=by
 have h:=ZaK ⟨[],[t]⟩ ⟨⟨by simp,by simp⟩,by simp only[ZhI];exact⟨hok,ht,trivial⟩,by simp⟩ (by simp only[Z0H];omega)
 have hN:Nv (.agg [.nslice,.rs 1 1 [stN t]]) (Pr.mk [] [t]).av:=by
  refine Nv.agg ⟨Nv.nil,Nv.rs ⟨?_,trivial⟩ rfl,trivial⟩
  cases t
  ·exact Nv.nil
  ·exact Nv.same
 refine h.weak λsn vs h=>?_
 simp only[LR]at h⊢
 obtain⟨d,ds,e,h1,r⟩:=h
 exact⟨d,ds,e,hN sn _ h1,r⟩
theorem ZnQ(l:List St):refsL [stN l] []=[]:=by cases l<;>rfl
theorem ZpN(l:List St)(g:Nat->Nat):renL g [stN l]=[stN l]:=by cases l<;>rfl
def Zrk(f:Nat):Bool:=Y03 f 26 || Y03 f 29
theorem ZcJ {s : List UInt8} {c : Nat} {pc cs : List AV} {ty ty' t1 : TypeId} {al : Bool} {e a : Int} (h : MemQ Y00 gl 1 26 [.str s, .func (.func c) [] [.ptr 0 0]] [⟨true, 0, 0, .cells pc ty⟩] (.agg [.int .i64 e, .int .i64 a]) [⟨al, 0, 0, .cells cs ty'⟩])
  (hpr:refsL pc []=[]) (hcs:refsL cs []=[]/\∀g,renL g cs=cs) :
  Z1v Y00 gl 26 [.str s,.func (.func c) [] [.ptr 1 0]] [⟨true,0,0,.cells [.int .i64 0,.int .i64 0] t1⟩,⟨true,1,0,.cells pc ty⟩] (.agg [.int .i64 e,.int .i64 a]) [⟨true,0,0,.cells [.int .i64 0,.int .i64 0] t1⟩,⟨al,1,0,.cells cs ty'⟩]:=by
 have h1:=Z9i h rfl rfl (λb o1 o2 e1 e2=>by
  match b,e1,e2 with
  |0,e1,e2=>cases e1;cases e2;exact⟨rfl,rfl,λ_=>rfl⟩
  |b+1,e1,e2=>cases e1)
 have h2:=Z7k (m:=[1]) (Hc:=[⟨true,0,0,.cells [.int .i64 0,.int .i64 0] t1⟩,⟨true,1,0,.cells pc ty⟩]) (cargs:=[.str s,.func (.func c) [] [.ptr 1 0]]) h1 (Wk.tuple ⟨Y04 rfl,Y06 trivial ⟨Y02 rfl rfl,trivial⟩,trivial⟩) ⟨⟨rfl,rfl,rfl,rfl,Y0e (rest:=[]) (Y0c pc).symm hpr⟩,trivial⟩ rfl rfl (by cases al<;>rfl) (λo ho=>by
  simp only[Y0n,Y0v,or_false]at ho
  rcases ho with rfl|rfl
  ·exact (show 0<2 by decide)
  ·exact (show 1<2 by decide)) (λi o hi=>by
  match i,hi with
  |0,hi=>cases hi;show Z11 1 (refsL cs [])=true;rw[hcs.1];rfl
  |i+1,hi=>cases hi) rfl
 have e:renL (sgS [1] 2) cs=cs:=hcs.2 _
 rw[<- e]
 exact h2
theorem ZcA{s:List UInt8}(hs:s.length<=65536):ValOK Y00 runLives.gl 19 [.str s] (.tuple [stA (Z17 s).2,.agg [.int .i64 (Z17 s).1.1,.int .i64 (Z17 s).1.2]]):=by
 obtain⟨al,cs,ty',hM,hcs,o3⟩:=Zbm (c:=39) (pc:=[.nslice]) (pcF:=λT=>[stN (Z1h T).1]) (ty:=53) (run:=Zem) hs (by kernel_rfl) (by decide) rfl (λg=>rfl) (λT=>ZnQ _) (λT g=>ZpN _ g)
  (λT hT hW hP=>Zk4 hT ⟨hP,rfl,rfl⟩ rfl) (λT hW hP he=>⟨(Z6g hP).ok,((Zbd (T:=T) (i0:=0) (λu _=>Zbe hW u) [] (T.length+1) s0 (Y05 _)).1.2 he (Z6g hP).ok.lt).2.2.2.2.2.1⟩)
 have hΦ : ∀r':AV,(∀sn v,VR sn noI r' v->VR sn noI (.tuple [stA (Z17 s).2,.agg [.int .i64 (Z17 s).1.1,.int .i64 (Z17 s).1.2]]) v)->∀sn v,VR sn noI r' v->VR sn noI (.tuple [stA (Z17 s).2,.agg [.int .i64 (Z17 s).1.1,.int .i64 (Z17 s).1.2]]) v:=λr' h=>h
 by_cases h0:(Z1a s Zem).1=0
 · obtain⟨rfl,rfl,rfl⟩:=o3 h0
   obtain⟨hV,h2,hz,hlen⟩:=Z78 hs h0
   have hC:=Zo1 (Z1h (Z0C s)).1 hV.1 (by omega) hz
   have hS:=ZcJ (t1:=29) hM rfl hcs
   rw[h0,h2]at hS
   obtain⟨O1,hO1,⟨p1,-⟩,-⟩:=Z25 (P:=Y00) (gl:=runLives.gl) [Zpq (by kernel_rfl) hS] [] rfl
   obtain⟨O,hO,q2,ho⟩:=Zg7 hO1 (f0:=29) rfl hC (by kernel_rfl)
   have hX:Z17 s=if Z19 ⟨[],[(Z1h (Z0C s)).1]⟩ ≠ 0 then ((Z19 ⟨[],[(Z1h (Z0C s)).1]⟩,0),[]) else ((0,0),(Z1h (Z0C s)).1):=by unfold Z17;rw[if_neg (by simpa using h0)]
   have q1:Z06 Y00 O [⟨true,0,0,.cells [.int .i64 0,.int .i64 0] 29⟩,⟨true,1,0,.cells [.nslice] 53⟩] 26 [.str s,.func (.func 39) [] [.ptr 1 0]]=some (.agg [.int .i64 0,.int .i64 0],[⟨true,0,0,.cells [.int .i64 0,.int .i64 0] 29⟩,⟨true,1,0,.cells [stN (Z1h (Z0C s)).1] 53⟩]):=(ho 26 (by decide) _ _).trans (p1 () trivial)
   rw[hX]at hΦ⊢
   clear p1 hX hS hC hM hcs o3 hV hz hlen ho hO1
   generalize (Z1h (Z0C s)).1=l at *
   have hc:Z19 ⟨[],[l]⟩=0\/Z19 ⟨[],[l]⟩ ≠ 0:=Classical.em _
   generalize Z19 ⟨[],[l]⟩=c at *
   rcases hc with rfl|hc
   · rw[if_neg (by simp)]at hΦ⊢
     cases l
     all_goals simp only[stN,stA]at q1 q2
     all_goals refine fn_valX follows Z05 (Z09 follows Z05 hO 3) hΦ Tryz.func19 rfl (Z0f (isC:=Zrk) 3) ?_
     all_goals repeat' ((conv=>whnf);first|refine exI q1 ?_|refine exI (q2 _ _ rfl) ?_|refine stp ?_|with_reducible apply Z01<;>intro h)
     ·exact λsn v h=>Zfu h
     ·exact λsn v h=>h
   · rw[if_pos hc]at hΦ⊢
     have e1:(c==0)=false:=by simpa using hc
     have e2:(c != 0)=true:=by simpa using hc
     cases l
     all_goals simp only[stN,stA]at q1 q2
     all_goals refine fn_valX follows Z05 (Z09 follows Z05 hO 3) hΦ Tryz.func19 rfl (Z0f (isC:=Zrk) 3) ?_
     all_goals repeat' ((conv=>whnf);first|refine exI q1 ?_|refine exI (q2 _ _ rfl) ?_|refine stp ?_|with_reducible apply Z01<;>intro h)
     all_goals exact λsn v h=>Zfu h
 · have hX:Z17 s=(Z1a s Zem,[]):=by unfold Z17;rw[if_pos h0]
   rw[hX]at hΦ⊢
   have hS:=ZcJ (t1:=29) hM rfl hcs
   obtain⟨O,hO,⟨p1,-⟩,-⟩:=Z25 (P:=Y00) (gl:=runLives.gl) [Zpq (by kernel_rfl) hS] [] rfl
   have q1:Z06 Y00 O [⟨true,0,0,.cells [.int .i64 0,.int .i64 0] 29⟩,⟨true,1,0,.cells [.nslice] 53⟩] 26 [.str s,.func (.func 39) [] [.ptr 1 0]]=some (.agg [.int .i64 (Z1a s Zem).1,.int .i64 (Z1a s Zem).2],[⟨true,0,0,.cells [.int .i64 0,.int .i64 0] 29⟩,⟨al,1,0,.cells cs ty'⟩]):=p1 () trivial
   clear p1 o3 hM hS
   generalize Z1a s Zem=F at *
   obtain⟨e,a⟩:=F
   simp only at h0 q1⊢
   have e1:(e==0)=false:=by simpa using h0
   have e2:(e != 0)=true:=by simpa using h0
   cases al<;>refine fn_valX follows Z05 (Z09 follows Z05 hO 3) hΦ Tryz.func19 rfl (Z0f (isC:=Zrk) 3) ?_
   all_goals repeat' ((conv=>whnf);first|refine exI q1 ?_|refine stp ?_|with_reducible apply Z01<;>intro h)
   all_goals exact λsn v h=>Zfu h
end
section
def txA:List UInt8 := "shared x; thread { r = load(x, acq); if (r == 1) { store(x, r + 1, rel); } }".toUTF8.data.toList
def txB:List UInt8 := "thread { r = ; }".toUTF8.data.toList
def exR:Ex:=.mk 2 0 [114] []
def Zrw:Ex:=.mk 1 1 [] []
def pgP:Pr:=⟨[⟨[120],false,0⟩],[[.mk 2 [114] [120] 3 [] [] [],.mk 10 [] [] 0 [.mk 7 0 [] [exR,Zrw]] [.mk 3 [] [120] 4 [.mk 14 0 [] [exR,Zrw]] [] []] []]]⟩
theorem pxA:Z0S txA=((0,0),pgP):=by kernel_rfl
theorem pxB:Z0S txB=((5,13),⟨[],[]⟩):=by kernel_rfl
end
section
variable {gl:Z0k}
def Z5K{α β : Type}(f : α -> β -> Bool):List α -> List β -> Bool
 |[],[]=>true
 |x::a,y::b=>f x y&&Z5K f a b
 |_,_=>false
theorem Z6W{α β : Type}(f : α -> β -> Bool):∀(a:List α)(b:List β),a.length≠b.length->Z5K f a b=false
 |[],[],h=>by simp at h
 |[],_::_,_=>rfl
 |_::_,[],_=>rfl
 |x::a,y::b,h=>by simp only[Z5K,Z6W f a b (by simpa using h),Y0x]
theorem Z57{α β : Type}(f : α -> β -> Bool):∀(a:List α)(b:List β)(i:Nat)(h:i<a.length)(h':i<b.length),Z5K f (a.take (i+1)) (b.take (i+1))=(Z5K f (a.take i) (b.take i)&&f a[i] b[i])
 |x::a,y::b,0,h,h'=>by simp[Z5K]
 |x::a,y::b,i+1,h,h'=>by
  have:=Z57 f a b i (by simpa using h) (by simpa using h')
  simp only[Y0h,Z5K,Y0p]at this⊢;rw[this,Bool.and_assoc]
theorem Z6X{α β : Type}(f : α -> β -> Bool):∀{a:List α}{b:List β}{i:Nat}(h:i<a.length)(h':i<b.length),f a[i] b[i]=false->Z5K f a b=false
 |x::a,y::b,0,h,h',e=>by simp only[Y0w]at e;simp only[Z5K,e,Bool.false_and]
 |x::a,y::b,i+1,h,h',e=>by simp only[Y0p]at e;simp only[Z5K,Z6X f (a:=a) (b:=b) (by simpa using h) (by simpa using h') e,Y0x]
theorem Z9R{α : Type}(f : α -> α -> Bool):∀{a:List α},(∀x∈a,f x x=true)->Z5K f a a=true
 |[],_=>rfl
 |x::a,h=>by simp only[Z5K,h x (by simp),Z9R f (a:=a) λy hy=>h y (by simp[hy]),Y0q]
mutual
def Z5H:Ex->Ex->Bool
 | .mk o n s k,.mk o' n' s' k'=>(o==o')&&((n==n')&&((s==s')&&sameL k k'))
def sameL:List Ex->List Ex->Bool
 |[],[]=>true
 |x::a,y::b=>Z5H x y&&sameL a b
 |_,_=>false
end
theorem ZfB:∀(a b:List Ex),sameL a b=Z5K Z5H a b
 |[],[]=>by simp only[sameL,Z5K]
 |[],_::_=>by simp only[sameL,Z5K]
 |_::_,[]=>by simp only[sameL,Z5K]
 |x::a,y::b=>by simp only[sameL,Z5K,ZfB a b]
theorem Zl8(a b:Ex):refsL [.agg a.cells,.agg b.cells] []=[]:=by
 obtain⟨o,n,s,k⟩:=a
 obtain⟨o',n',s',k'⟩:=b
 simp only[Ex.cells];rfl
def Zqw{g:Nat}(hb:Z0m Y00 g=true)(G:Ex×Ex->Prop)(h:∀p,G p->ValOK Y00 gl g [.agg p.1.cells,.agg p.2.cells] (.bool (Z5H p.1 p.2))):Fam Y00 gl:={ I:=Ex×Ex,f:=g,G:=G,A:=λp=>[.agg p.1.cells,.agg p.2.cells],R:=λp=>.bool (Z5H p.1 p.2),body:=hb,inj:=(λi j _ _ h=>by simp only[List.cons.injEq,AV.agg.injEq,and_true]at h;rw[Z6R _ _ h.1,Z6R _ _ h.2]),ok:=(λp hp=>⟨Zl8 p.1 p.2,h p hp⟩) }
theorem ZcY(a b:List Ex)(ha:a.length<=9223372036854775807)(each:∀x∈a,∀y∈b,ValOK Y00 gl 20 [.agg x.cells,.agg y.cells] (.bool (Z5H x y))):ValOK Y00 gl 42 [exA a,exA b] (.bool (sameL a b)):=by
 obtain⟨O,hO,p1,-⟩:=fams (P:=Y00) (gl:=gl) [Zqw (g:=20) (by kernel_rfl) (λp=>p.1∈a/\p.2∈b) (λp hp=>each _ hp.1 _ hp.2)] rfl
 have q1:∀x∈a,∀y∈b,∀H,Z06 Y00 O H 20 [.agg x.cells,.agg y.cells]=some (.bool (Z5H x y),H):=λx hx y hy=>p1 (x,y) ⟨hx,hy⟩
 clear p1
 rw[ZfB]
 unfold exA
 refine Z0v follows Z05 hO Tryz.func42 rfl ?_
 by_cases hl:a.length=b.length
 · have e0:((a.length:Int) != (b.length:Int))=false:=Z5N (b:=true) (by rw[hl];simp)
   repeat' ((conv=>whnf);first|refine stp ?_|with_reducible apply Z01<;>intro h)
   conv=>whnf
   refine⟨Nat,(λi=>i<=a.length/\Z5K Z5H (a.take i) (b.take i)=true),(λi=>[(0,.rs a.length 4 (exC a)),(1,.rs b.length 4 (exC b)),(5,.int .i64 i)]),(λ_=>[]),(λi=>a.length-i),⟨0,⟨Y05 _,rfl⟩,FgL.mk0 rfl ?_⟩,?_⟩
   ·exact wks
   rintro i ⟨hi,hall⟩
   dsimp only
   by_cases hlt:i<a.length
   · have e1:decide ((i:Int)<(a.length:Int))=true:=by simpa using hlt
     have hlt':i<b.length:=by omega
     have hat:=Z57 Z5H a b i hlt hlt'
     rw[hall,Y0q]at hat
     have hfalse:Z5H a[i] b[i]=false->Z5K Z5H a b=false:=Z6X Z5H hlt hlt'
     have hx:=ex4 a i hlt
     have hy:=ex4 b i hlt'
     have q2:=q1 a[i] (Z0N hlt) b[i] (Z0N hlt')
     generalize a[i]=x at *
     generalize b[i]=y at *
     generalize Z5H x y=w at *
     obtain⟨o,n,s,k⟩:=x
     obtain⟨o',n',s',k'⟩:=y
     simp only[Ex.cells]at hx hy q2
     cases w with
     |true =>
      repeat' ((conv=>whnf);first|with_reducible refine exI (q2 _) ?_|(with_reducible refine ixJ i rfl ?_ ?_;focus omega)|refine exI hx ?_|refine exI hy ?_|refine stp ?_|with_reducible apply Z01<;>intro h)
      conv=>whnf
      refine⟨i+1,⟨hlt,hat⟩,by show a.length-(i+1)<a.length-i;omega,FgL.mk0 rfl ?_⟩
      exact wks
     |false =>
      rw[hfalse rfl]
      repeat' ((conv=>whnf);first|with_reducible refine exI (q2 _) ?_|(with_reducible refine ixJ i rfl ?_ ?_;focus omega)|refine exI hx ?_|refine exI hy ?_|refine stp ?_|with_reducible apply Z01<;>intro h)
      all_goals rfl
   · have e1:decide ((i:Int)<(a.length:Int))=false:=by simpa using hlt
     have hi2:i=a.length:=by have:=hi;omega
     subst hi2
     rw[Y0o,hl,Y0o]at hall
     rw[hall]
     repeat' ((conv=>whnf);first|refine stp ?_|with_reducible apply Z01<;>intro h)
     all_goals rfl
 · rw[Z6W _ _ _ hl]
   have e0:((a.length:Int) != (b.length:Int))=true:=Z5N (b:=false) (by simpa using (λh=>hl (by omega)))
   repeat' ((conv=>whnf);first|refine stp ?_|with_reducible apply Z01<;>intro h)
   all_goals rfl
theorem Z8B:∀(n:Nat)(a b:Ex),Z0A a<=n->okE a->ValOK Y00 gl 20 [.agg a.cells,.agg b.cells] (.bool (Z5H a b))
 |n,.mk o m s k,.mk o' m' s' k',h,hok=>by
  have hk:=Z6y hok
  simp only[Ex.kids,Ex.name,okN]at hk
  simp only[Z0A]at h
  obtain⟨O,hO,p1,-⟩:=fams (P:=Y00) (gl:=gl) [{ I:=Unit,f:=42,G:=λ_=>True,A:=λ_=>[exA k,exA k'],R:=λ_=>.bool (sameL k k'),body:=(by kernel_rfl),inj:=(λ_ _ _ _ _=>rfl),ok:=(λ_ _=>⟨rfl,ZcY k k' hk.1.2 λx hx y _=>match n,(show 1<=n by omega),h with|n+1,_,h=>Z8B n x y (by have:=Z1V _ _ hx;omega) (Z5Y hk.2 _ hx)⟩) }] rfl
  have q1:∀H,Z06 Y00 O H 42 [exA k,exA k']=some (.bool (sameL k k'),H):=p1 () trivial
  clear p1
  simp only[Ex.cells,exA,Z5H]at q1⊢
  generalize sameL k k'=w at *
  refine Z0v follows Z05 hO Tryz.func20 rfl ?_
  generalize hb1:(o==o')=b1
  generalize hb2:(m==m')=b2
  generalize hb3:(s==s')=b3
  cases b1<;>cases b2<;>cases b3<;>cases w
  all_goals (repeat' ((conv=>whnf);first|with_reducible refine exI (q1 _) ?_|refine stp ?_|with_reducible apply Z01<;>intro h))
  all_goals (first|rfl|(simp_all[Z0Y];done))
end
section
variable {gl:Z0k}
mutual
def Z8e:St->St->Bool
 | .mk k n l o x t e,.mk k' n' l' o' x' t' e'=>(k==k')&&((n==n')&&((l==l')&&((o==o')&&(sameL x x'&&(sameSL t t'&&sameSL e e')))))
def sameSL:List St->List St->Bool
 |[],[]=>true
 |x::a,y::b=>Z8e x y&&sameSL a b
 |_,_=>false
end
theorem ZcE:∀(a b:List St),sameSL a b=Z5K Z8e a b
 |[],[]=>by simp only[sameSL,Z5K]
 |[],_::_=>by simp only[sameSL,Z5K]
 |_::_,[]=>by simp only[sameSL,Z5K]
 |x::a,y::b=>by simp only[sameSL,Z5K,ZcE a b]
def ZjG{g:Nat}(hb:Z0m Y00 g=true)(G:List St×List St->Prop)(h:∀p,G p->ValOK Y00 gl g [stA p.1,stA p.2] (.bool (sameSL p.1 p.2))):Fam Y00 gl:={ I:=List St×List St,f:=g,G:=G,A:=λp=>[stA p.1,stA p.2],R:=λp=>.bool (sameSL p.1 p.2),body:=hb,inj:=(λi j _ _ h=>by simp only[List.cons.injEq,and_true]at h;rw[Z7a h.1,Z7a h.2]),ok:=(λp hp=>⟨rfl,h p hp⟩) }
end
end Go.Proofs.YtneoiadnbikciaaGreatDoor.lex

/-
  Texts of this proof, one behind the other (part 15).
-/
import Derived.Test.YtpcpdlfhcahjgaaGreatDoorXd12
set_option linter.unusedVariables false
set_option linter.unusedSimpArgs false
set_option maxRecDepth 100000
set_option maxHeartbeats 4000000
namespace Go.Proofs.YtpcpdlfhcahjgaaGreatDoor.lex
open Go.Abs Go.RowKit
section
section
abbrev fmN:Fam Tryz.prog runLives.gl:={ I:=List UInt8,f:=13,G:=λs=>s.length<=1048576,A:=λs=>[.str s],R:=λs=>.int .i64 (Z17 s:Nat),body:=(by kernel_rfl),inj:=(λi j _ _ h=>by rw[show i=j by simpa using h]),ok:=(λs h=>⟨rfl,Zab s h⟩) }
end
end
end Go.Proofs.YtpcpdlfhcahjgaaGreatDoor.lex

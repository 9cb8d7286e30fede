/-
  What is proved here: part 3 of the road to the claim (Have2, Have4).
  No conditions.
-/
import Derived.Test.YtiopamakecmpkaaGreatCmK1
import Derived.Test.YtiopamakecmpkaaGreatProg
import Derived.KernelRfl

set_option linter.unusedSimpArgs false
set_option linter.unusedVariables false
namespace Go.Abs
open Go.Proofs
set_option maxRecDepth 100000
set_option maxHeartbeats 4000000
@[go_sem] def Bx:bK Tryz.prog 82:=⟨.of Tryz.f82⟩
@[go_sem] def EX:bK Tryz.prog 83:=⟨.of Tryz.f83⟩
@[go_sem] def EY:bK Tryz.prog 84:=⟨.of Tryz.f84⟩
@[go_sem] def ni:bK Tryz.prog 85:=⟨.of Tryz.f85⟩
abbrev rV:AC:= .sub [1,1,0,1,0,0] ni.body
abbrev rW:AC:= .sub [1,1,1] ni.body
@[go_sem] def C6:bK Tryz.prog 86:=⟨.of Tryz.f86⟩
@[go_sem] def zG:bK Tryz.prog 87:=⟨.of Tryz.f87⟩
@[go_sem] def G2:bK Tryz.prog 95:=⟨.of Tryz.f95⟩
@[go_sem] def EZ:bK Tryz.prog 96:=⟨.of Tryz.f96⟩
@[go_sem] def G3:bK Tryz.prog 97:=⟨.of Tryz.f97⟩
@[go_sem] def yn:bK Tryz.prog 98:=⟨.of Tryz.f98⟩
@[go_sem] def jo:bK Tryz.prog 116:=⟨.of Tryz.f116⟩
abbrev Q0A:AC:= .sub [1] jo.body
abbrev Q0B:AC:= .sub [1,1] jo.body
abbrev Q0C:AC:= .sub [1,1,1] jo.body
abbrev Q0D:AC:= .sub [1,1,1,1] jo.body
abbrev Q0E:AC:= .sub [1,1,1,1,1] jo.body
@[go_sem] def yo:bK Tryz.prog 117:=⟨.of Tryz.f117⟩
@[go_sem] def rj:bK Tryz.prog 118:=⟨.of Tryz.f118⟩
@[go_sem] def C7:bK Tryz.prog 119:=⟨.of Tryz.f119⟩
end Go.Abs
namespace Go.Abs
open Go.Proofs
set_option maxRecDepth 100000
set_option maxHeartbeats 4000000
@[go_sem] def p7:bK Tryz.prog 166:=⟨.of Tryz.f166⟩
@[go_sem] def vr:bK Tryz.prog 167:=⟨.of Tryz.f167⟩
@[go_sem] def vt:bK Tryz.prog 170:=⟨.of Tryz.f170⟩
@[go_sem] def vu:bK Tryz.prog 171:=⟨.of Tryz.f171⟩
@[go_sem] def oY:bK Tryz.prog 172:=⟨.of Tryz.f172⟩
@[go_sem] def E1:bK Tryz.prog 173:=⟨.of Tryz.f173⟩
@[go_sem] def AG:bK Tryz.prog 174:=⟨.of Tryz.f174⟩
@[go_sem] def rH:bK Tryz.prog 175:=⟨.of Tryz.f175⟩
@[go_sem] def zH:bK Tryz.prog 176:=⟨.of Tryz.f176⟩
@[go_sem] def C8:bK Tryz.prog 177:=⟨.of Tryz.f177⟩
@[go_sem] def C9:bK Tryz.prog 178:=⟨.of Tryz.f178⟩
@[go_sem] def E2:bK Tryz.prog 179:=⟨.of Tryz.f179⟩
@[go_sem] def E3:bK Tryz.prog 180:=⟨.of Tryz.f180⟩
@[go_sem] def G4:bK Tryz.prog 181:=⟨.of Tryz.f181⟩
@[go_sem] def AH:bK Tryz.prog 190:=⟨.of Tryz.f190⟩
@[go_sem] def E4:bK Tryz.prog 191:=⟨.of Tryz.f191⟩
@[go_sem] def pG:bK Tryz.prog 192:=⟨.of Tryz.f192⟩
@[go_sem] def tc:bK Tryz.prog 204:=⟨.Uc Tryz.f204⟩
end Go.Abs

/-
  What is proved here: part 2 of the road to the claim (Have0, Have1).
  No conditions.
-/
import Derived.Test.YtiopamakecmpkaaGreatCmK1
import Derived.Test.YtiopamakecmpkaaGreatProg
import Derived.KernelRfl

set_option linter.unusedSimpArgs false
set_option linter.unusedVariables false
namespace Go.Abs
open Go.Proofs
set_option maxRecDepth 100000
set_option maxHeartbeats 4000000
@[go_sem] def fv:bK Tryz.prog 8:=⟨.Uc Tryz.f8⟩
@[go_sem] def zD:bK Tryz.prog 12:=⟨.of Tryz.f12⟩
@[go_sem] def ES:bK Tryz.prog 13:=⟨.of Tryz.f13⟩
@[go_sem] def mb:bK Tryz.prog 14:=⟨.of Tryz.f14⟩
@[go_sem] def ET:bK Tryz.prog 16:=⟨.of Tryz.f16⟩
@[go_sem] def qm:bK Tryz.prog 19:=⟨.of Tryz.f19⟩
@[go_sem] def GZ:bK Tryz.prog 22:=⟨.of Tryz.f22⟩
@[go_sem] def tH:bK Tryz.prog 23:=⟨.of Tryz.f23⟩
@[go_sem] def tJ:bK Tryz.prog 24:=⟨.of Tryz.f24⟩
@[go_sem] def vn:bK Tryz.prog 25:=⟨.of Tryz.f25⟩
@[go_sem] def tL:bK Tryz.prog 26:=⟨.of Tryz.f26⟩
@[go_sem] def Bs:bK Tryz.prog 27:=⟨.of Tryz.f27⟩
@[go_sem] def kc:bK Tryz.prog 28:=⟨.of Tryz.f28⟩
@[go_sem] def xn:bK Tryz.prog 30:=⟨.of Tryz.f30⟩
@[go_sem] def rF:bK Tryz.prog 31:=⟨.of Tryz.f31⟩
@[go_sem] def ym:bK Tryz.prog 32:=⟨.of Tryz.f32⟩
@[go_sem] def C3:bK Tryz.prog 33:=⟨.of Tryz.f33⟩
@[go_sem] def pD:bK Tryz.prog 34:=⟨.of Tryz.f34⟩
abbrev Q00:AC:= .sub [1,1,1,0,1,0,0] pD.body
abbrev Q01:AC:= .sub [1,1,1,1] pD.body
@[go_sem] def IT:bK Tryz.prog 39:=⟨.of Tryz.f39⟩
end Go.Abs
namespace Go.Abs
open Go.Proofs
set_option maxRecDepth 100000
set_option maxHeartbeats 4000000
@[go_sem] def Bt:bK Tryz.prog 44:=⟨.of Tryz.f44⟩
@[go_sem] def EU:bK Tryz.prog 45:=⟨.of Tryz.f45⟩
@[go_sem] def xD:bK Tryz.prog 46:=⟨.of Tryz.f46⟩
@[go_sem] def nh:bK Tryz.prog 47:=⟨.of Tryz.f47⟩
@[go_sem] def qb:bK Tryz.prog 48:=⟨.of Tryz.f48⟩
@[go_sem] def C4:bK Tryz.prog 56:=⟨.of Tryz.f56⟩
@[go_sem] def pE:bK Tryz.prog 57:=⟨.of Tryz.f57⟩
@[go_sem] def ta:bK Tryz.prog 58:=⟨.of Tryz.f58⟩
@[go_sem] def Bu:bK Tryz.prog 59:=⟨.of Tryz.f59⟩
@[go_sem] def G0:bK Tryz.prog 60:=⟨.of Tryz.f60⟩
@[go_sem] def EV:bK Tryz.prog 61:=⟨.of Tryz.f61⟩
@[go_sem] def pF:bK Tryz.prog 62:=⟨.of Tryz.f62⟩
@[go_sem] def zE:bK Tryz.prog 63:=⟨.of Tryz.f63⟩
@[go_sem] def rG:bK Tryz.prog 64:=⟨.of Tryz.f64⟩
@[go_sem] def zF:bK Tryz.prog 65:=⟨.of Tryz.f65⟩
@[go_sem] def Bv:bK Tryz.prog 66:=⟨.of Tryz.f66⟩
@[go_sem] def vo:bK Tryz.prog 67:=⟨.of Tryz.f67⟩
@[go_sem] def vq:bK Tryz.prog 68:=⟨.of Tryz.f68⟩
@[go_sem] def EW:bK Tryz.prog 69:=⟨.of Tryz.f69⟩
@[go_sem] def nJ:bK Tryz.prog 70:=⟨.of Tryz.f70⟩
@[go_sem] def rU:bK Tryz.prog 71:=⟨.of Tryz.f71⟩
@[go_sem] def AE:bK Tryz.prog 72:=⟨.of Tryz.f72⟩
@[go_sem] def oi:bK Tryz.prog 73:=⟨.of Tryz.f73⟩
abbrev tM:AC:= .sub [1,0] oi.body
abbrev zX:AC:= .sub [1,0,1,1,1,1,1] oi.body
abbrev Q04:AC:= .sub [1,0,1,1,1,1,1,1,1,1,1,1,1,1,1,1,1,1,1,1,1,1,1,1,1,1,1,0,0,0] oi.body
abbrev Q05:AC:= .sub [1,0,1,1,1,1,1,1,1,1,1,1,1,1,1,1,1,1,1,1,1,1,1,1,1,1,1,1] oi.body
@[go_sem] def kd:bK Tryz.prog 74:=⟨.of Tryz.f74⟩
abbrev Q06:AC:= .sub [1,1,1,0,0,0] kd.body
abbrev Q07:AC:= .sub [1,1,1,1] kd.body
@[go_sem] def Bw:bK Tryz.prog 75:=⟨.of Tryz.f75⟩
@[go_sem] def C5:bK Tryz.prog 76:=⟨.of Tryz.f76⟩
@[go_sem] def IU:bK Tryz.prog 77:=⟨.of Tryz.f77⟩
@[go_sem] def G1:bK Tryz.prog 78:=⟨.of Tryz.f78⟩
end Go.Abs

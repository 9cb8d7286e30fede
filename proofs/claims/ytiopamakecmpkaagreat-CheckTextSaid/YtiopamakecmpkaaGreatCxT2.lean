/-
  What is proved here: part 2 of the road to the claim (Have0, Have1).
  No conditions.
-/
import Derived.Test.YtiopamakecmpkaaGreatCxT1
import Derived.Test.YtiopamakecmpkaaGreatProg
import Derived.KernelRfl

set_option linter.unusedSimpArgs false
set_option linter.unusedVariables false
namespace Go.Abs
open Go.Proofs
set_option maxRecDepth 100000
set_option maxHeartbeats 4000000
@[go_sem] def zh:bD Tryz.prog 4:=⟨.of Tryz.f4⟩
@[go_sem] def Bs:bD Tryz.prog 12:=⟨.of Tryz.f12⟩
@[go_sem] def nO:bD Tryz.prog 14:=⟨.of Tryz.f14⟩
@[go_sem] def qM:bD Tryz.prog 15:=⟨.of Tryz.f15⟩
@[go_sem] def G2:bD Tryz.prog 16:=⟨.of Tryz.f16⟩
@[go_sem] def IP:bD Tryz.prog 18:=⟨.of Tryz.f18⟩
@[go_sem] def rJ:bD Tryz.prog 19:=⟨.of Tryz.f19⟩
@[go_sem] def s6:bD Tryz.prog 20:=⟨.of Tryz.f20⟩
@[go_sem] def KW:bD Tryz.prog 21:=⟨.of Tryz.f21⟩
@[go_sem] def IQ:bD Tryz.prog 22:=⟨.of Tryz.f22⟩
@[go_sem] def vu:bD Tryz.prog 23:=⟨.of Tryz.f23⟩
@[go_sem] def vv:bD Tryz.prog 24:=⟨.of Tryz.f24⟩
@[go_sem] def xj:bD Tryz.prog 25:=⟨.of Tryz.f25⟩
@[go_sem] def vw:bD Tryz.prog 26:=⟨.of Tryz.f26⟩
@[go_sem] def Dj:bD Tryz.prog 27:=⟨.of Tryz.f27⟩
@[go_sem] def mQ:bD Tryz.prog 28:=⟨.of Tryz.f28⟩
@[go_sem] def EF:bD Tryz.prog 33:=⟨.of Tryz.f33⟩
@[go_sem] def IS:bD Tryz.prog 38:=⟨.of Tryz.f38⟩
@[go_sem] def KX:bD Tryz.prog 39:=⟨.of Tryz.f39⟩
end Go.Abs
namespace Go.Abs
open Go.Proofs
set_option maxRecDepth 100000
set_option maxHeartbeats 4000000
@[go_sem] def Dk:bD Tryz.prog 44:=⟨.of Tryz.f44⟩
@[go_sem] def G3:bD Tryz.prog 45:=⟨.of Tryz.f45⟩
@[go_sem] def xk:bD Tryz.prog 49:=⟨.of Tryz.f49⟩
@[go_sem] def EG:bD Tryz.prog 50:=⟨.of Tryz.f50⟩
@[go_sem] def EH:bD Tryz.prog 51:=⟨.of Tryz.f51⟩
@[go_sem] def Bt:bD Tryz.prog 52:=⟨.of Tryz.f52⟩
@[go_sem] def o5:bD Tryz.prog 53:=⟨.of Tryz.f53⟩
abbrev Q00:AC:= .sub [1,1,1,1,1,1,0,0,0] o5.body
abbrev Q01:AC:= .sub [1,1,1,1,1,1,1] o5.body
@[go_sem] def Ch:bD Tryz.prog 54:=⟨.of Tryz.f54⟩
@[go_sem] def Ci:bD Tryz.prog 55:=⟨.of Tryz.f55⟩
@[go_sem] def EI:bD Tryz.prog 56:=⟨.of Tryz.f56⟩
@[go_sem] def qN:bD Tryz.prog 57:=⟨.of Tryz.f57⟩
@[go_sem] def u3:bD Tryz.prog 58:=⟨.of Tryz.f58⟩
@[go_sem] def Dl:bD Tryz.prog 59:=⟨.of Tryz.f59⟩
@[go_sem] def IT:bD Tryz.prog 60:=⟨.of Tryz.f60⟩
@[go_sem] def G4:bD Tryz.prog 61:=⟨.of Tryz.f61⟩
@[go_sem] def qO:bD Tryz.prog 62:=⟨.of Tryz.f62⟩
@[go_sem] def Bu:bD Tryz.prog 63:=⟨.of Tryz.f63⟩
@[go_sem] def s7:bD Tryz.prog 64:=⟨.of Tryz.f64⟩
@[go_sem] def Bv:bD Tryz.prog 65:=⟨.of Tryz.f65⟩
@[go_sem] def Dm:bD Tryz.prog 66:=⟨.of Tryz.f66⟩
@[go_sem] def xl:bD Tryz.prog 67:=⟨.of Tryz.f67⟩
@[go_sem] def xm:bD Tryz.prog 68:=⟨.of Tryz.f68⟩
@[go_sem] def G5:bD Tryz.prog 69:=⟨.of Tryz.f69⟩
@[go_sem] def o6:bD Tryz.prog 70:=⟨.of Tryz.f70⟩
@[go_sem] def tA:bD Tryz.prog 71:=⟨.of Tryz.f71⟩
@[go_sem] def Cj:bD Tryz.prog 72:=⟨.of Tryz.f72⟩
@[go_sem] def pM:bD Tryz.prog 73:=⟨.of Tryz.f73⟩
abbrev vx:AC:= .sub [1,0] pM.body
abbrev BL:AC:= .sub [1,0,1,1,1,1,1] pM.body
abbrev Q04:AC:= .sub [1,0,1,1,1,1,1,1,1,1,1,1,1,1,1,1,1,1,1,1,1,1,1,1,1,1,1,0,0,0] pM.body
abbrev Q05:AC:= .sub [1,0,1,1,1,1,1,1,1,1,1,1,1,1,1,1,1,1,1,1,1,1,1,1,1,1,1,1] pM.body
@[go_sem] def lh:bD Tryz.prog 74:=⟨.of Tryz.f74⟩
abbrev Q06:AC:= .sub [1,1,1,0,0,0] lh.body
abbrev Q07:AC:= .sub [1,1,1,1] lh.body
@[go_sem] def Dn:bD Tryz.prog 75:=⟨.of Tryz.f75⟩
@[go_sem] def EJ:bD Tryz.prog 76:=⟨.of Tryz.f76⟩
@[go_sem] def KY:bD Tryz.prog 77:=⟨.of Tryz.f77⟩
@[go_sem] def IU:bD Tryz.prog 78:=⟨.of Tryz.f78⟩
end Go.Abs

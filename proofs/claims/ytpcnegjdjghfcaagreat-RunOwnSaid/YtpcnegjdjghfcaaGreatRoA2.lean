/-
  What is proved here: part 2 of the road to the claim (Have0, Have1).
  No conditions.
-/
import Derived.Test.YtpcnegjdjghfcaaGreatRoA1
import Derived.Test.YtpcnegjdjghfcaaGreatProg
import Derived.KernelRfl

set_option linter.unusedSimpArgs false
set_option linter.unusedVariables false
namespace Go.Abs
open Go.Proofs
set_option maxRecDepth 100000
set_option maxHeartbeats 4000000
@[go_sem] def kC:bH Tryz.prog 3:=⟨.of Tryz.f3⟩
abbrev Q00:AC:= .sub [1,1,1,1,1,1,0,1,0,0] kC.body
abbrev Q01:AC:= .sub [1,1,1,1,1,1,1] kC.body
abbrev Q02:AC:= .sub [1,1,1,1,1,1,1,0,1,0,0] kC.body
abbrev Q03:AC:= .sub [1,1,1,1,1,1,1,1] kC.body
@[go_sem] def MU:bH Tryz.prog 4:=⟨.of Tryz.f4⟩
@[go_sem] def MV:bH Tryz.prog 5:=⟨.of Tryz.f5⟩
@[go_sem] def IU:bH Tryz.prog 6:=⟨.of Tryz.f6⟩
@[go_sem] def MW:bH Tryz.prog 7:=⟨.of Tryz.f7⟩
@[go_sem] def zP:bH Tryz.prog 8:=⟨.of Tryz.f8⟩
@[go_sem] def og:bH Tryz.prog 9:=⟨.of Tryz.f9⟩
abbrev Q04:AC:= .sub [1,1,1,1,0,0,0] og.body
abbrev Q05:AC:= .sub [1,1,1,1,1] og.body
@[go_sem] def O5:bH Tryz.prog 10:=⟨.of Tryz.f10⟩
@[go_sem] def RH:bH Tryz.prog 11:=⟨.of Tryz.f11⟩
@[go_sem] def yI:bH Tryz.prog 12:=⟨.of Tryz.f12⟩
@[go_sem] def IV:bH Tryz.prog 13:=⟨.of Tryz.f13⟩
@[go_sem] def lX:bH Tryz.prog 14:=⟨.of Tryz.f14⟩
abbrev Q06:AC:= .sub [1,0] lX.body
abbrev Q07:AC:= .sub [1,0,1,1,0,1,0,0] lX.body
abbrev Q08:AC:= .sub [1,0,1,1,1] lX.body
abbrev Q09:AC:= .sub [1,0,1,1,1,1,1,1,1] lX.body
abbrev Q0A:AC:= .sub [1,0,1,1,1,1,1,1,1,1,1,1,1,1,1,1,1] lX.body
abbrev Q0B:AC:= .sub [1,0,1,1,1,1,1,1,1,1,1,1,1,1,1,1,1,1,1,1] lX.body
@[go_sem] def MX:bH Tryz.prog 15:=⟨.of Tryz.f15⟩
@[go_sem] def MY:bH Tryz.prog 16:=⟨.of Tryz.f16⟩
@[go_sem] def DS:bH Tryz.prog 17:=⟨.of Tryz.f17⟩
@[go_sem] def rV:bH Tryz.prog 18:=⟨.of Tryz.f18⟩
@[go_sem] def vx:bH Tryz.prog 19:=⟨.of Tryz.f19⟩
@[go_sem] def MZ:bH Tryz.prog 20:=⟨.of Tryz.f20⟩
@[go_sem] def O6:bH Tryz.prog 21:=⟨.of Tryz.f21⟩
@[go_sem] def Ki:bH Tryz.prog 22:=⟨.of Tryz.f22⟩
@[go_sem] def gM:bH Tryz.prog 23:=⟨.ofB Tryz.f23⟩
abbrev Q0C:AC:= .sub [1,1,1,0,1,0,0] gM.body
abbrev Q0D:AC:= .sub [1,1,1,1] gM.body
abbrev Q0E:AC:= .sub [1,1,1,1,0,1,0,0] gM.body
abbrev Q0F:AC:= .sub [1,1,1,1,1] gM.body
abbrev Q0G:AC:= .sub [1,1,1,1,1,0,1,0,0] gM.body
abbrev Q0H:AC:= .sub [1,1,1,1,1,1] gM.body
@[go_sem] def eO:bH Tryz.prog 24:=⟨.ofB Tryz.f24⟩
@[go_sem] def O7:bH Tryz.prog 25:=⟨.of Tryz.f25⟩
@[go_sem] def Hr:bH Tryz.prog 26:=⟨.of Tryz.f26⟩
@[go_sem] def Hs:bH Tryz.prog 27:=⟨.of Tryz.f27⟩
@[go_sem] def IW:bH Tryz.prog 28:=⟨.of Tryz.f28⟩
@[go_sem] def xH:bH Tryz.prog 29:=⟨.of Tryz.f29⟩
@[go_sem] def O8:bH Tryz.prog 30:=⟨.of Tryz.f30⟩
@[go_sem] def qx:bH Tryz.prog 31:=⟨.of Tryz.f31⟩
abbrev Q0I:AC:= .sub [1,1,1,1,0,1,0,0] qx.body
abbrev Q0J:AC:= .sub [1,1,1,1,1] qx.body
@[go_sem] def DT:bH Tryz.prog 32:=⟨.of Tryz.f32⟩
@[go_sem] def qy:bH Tryz.prog 33:=⟨.of Tryz.f33⟩
abbrev Q0K:AC:= .sub [1,1,0,1,0,0] qy.body
abbrev Q0L:AC:= .sub [1,1,1] qy.body
end Go.Abs
namespace Go.Abs
open Go.Proofs
set_option maxRecDepth 100000
set_option maxHeartbeats 4000000
@[go_sem] def uq:bH Tryz.prog 34:=⟨.of Tryz.f34⟩
@[go_sem] def iN:bH Tryz.prog 35:=⟨.of Tryz.f35⟩
@[go_sem] def ur:bH Tryz.prog 36:=⟨.of Tryz.f36⟩
@[go_sem] def O9:bH Tryz.prog 37:=⟨.of Tryz.f37⟩
@[go_sem] def M3:bH Tryz.prog 38:=⟨.of Tryz.f38⟩
@[go_sem] def Pa:bH Tryz.prog 39:=⟨.of Tryz.f39⟩
@[go_sem] def EC:bH Tryz.prog 40:=⟨.of Tryz.f40⟩
@[go_sem] def qS:bH Tryz.prog 41:=⟨.of Tryz.f41⟩
@[go_sem] def BL:bH Tryz.prog 42:=⟨.of Tryz.f42⟩
@[go_sem] def Pb:bH Tryz.prog 43:=⟨.of Tryz.f43⟩
@[go_sem] def uR:bH Tryz.prog 44:=⟨.of Tryz.f44⟩
@[go_sem] def Kj:bH Tryz.prog 45:=⟨.of Tryz.f45⟩
@[go_sem] def M4:bH Tryz.prog 46:=⟨.of Tryz.f46⟩
@[go_sem] def IX:bH Tryz.prog 47:=⟨.of Tryz.f47⟩
@[go_sem] def BM:bH Tryz.prog 48:=⟨.of Tryz.f48⟩
@[go_sem] def oc:bH Tryz.prog 49:=⟨.of Tryz.f49⟩
@[go_sem] def Kk:bH Tryz.prog 50:=⟨.of Tryz.f50⟩
@[go_sem] def rm:bH Tryz.prog 51:=⟨.of Tryz.f51⟩
@[go_sem] def oW:bH Tryz.prog 52:=⟨.of Tryz.f52⟩
abbrev Q0M:AC:= .sub [1,1,0,1,0,0] oW.body
abbrev Q0N:AC:= .sub [1,1,1] oW.body
@[go_sem] def oX:bH Tryz.prog 53:=⟨.of Tryz.f53⟩
abbrev Q0O:AC:= .sub [1,1,0,1,0,0] oX.body
abbrev Q0P:AC:= .sub [1,1,1] oX.body
@[go_sem] def od:bH Tryz.prog 54:=⟨.of Tryz.f54⟩
abbrev Q0Q:AC:= .sub [1,0,0] od.body
@[go_sem] def gX:bH Tryz.prog 55:=⟨.of Tryz.f55⟩
@[go_sem] def Kl:bH Tryz.prog 56:=⟨.ofB Tryz.f56⟩
@[go_sem] def ED:bH Tryz.prog 57:=⟨.of Tryz.f57⟩
@[go_sem] def Km:bH Tryz.prog 58:=⟨.of Tryz.f58⟩
@[go_sem] def CM:bH Tryz.prog 59:=⟨.of Tryz.f59⟩
@[go_sem] def vq:bH Tryz.prog 60:=⟨.of Tryz.f60⟩
@[go_sem] def BN:bH Tryz.prog 61:=⟨.of Tryz.f61⟩
@[go_sem] def BO:bH Tryz.prog 62:=⟨.of Tryz.f62⟩
@[go_sem] def pU:bH Tryz.prog 63:=⟨.of Tryz.f63⟩
abbrev Q0R:AC:= .sub [1,1,1,0,1,0,0] pU.body
abbrev Q0S:AC:= .sub [1,1,1,1] pU.body
@[go_sem] def BP:bH Tryz.prog 64:=⟨.of Tryz.f64⟩
@[go_sem] def F7:bH Tryz.prog 65:=⟨.of Tryz.f65⟩
@[go_sem] def DI:bH Tryz.prog 66:=⟨.of Tryz.f66⟩
@[go_sem] def DU:bH Tryz.prog 67:=⟨.of Tryz.f67⟩
@[go_sem] def Pe:bH Tryz.prog 68:=⟨.of Tryz.f68⟩
@[go_sem] def zQ:bH Tryz.prog 69:=⟨.of Tryz.f69⟩
@[go_sem] def zR:bH Tryz.prog 70:=⟨.of Tryz.f70⟩
end Go.Abs

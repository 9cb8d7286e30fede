/-
  What is proved here: part 4 of the road to the claim (Have5, Have3).
  No conditions.
-/
import Derived.Test.YtpjadlleefgcpaaGreatRnL3
import Derived.Test.YtpjadlleefgcpaaGreatProg
import Derived.KernelRfl

set_option linter.unusedSimpArgs false
set_option linter.unusedVariables false
namespace Go.Abs
open Go.Proofs
set_option maxRecDepth 100000
set_option maxHeartbeats 4000000
@[go_sem] def ME:bJ Tryz.prog 195:=⟨.of Tryz.f195⟩
@[go_sem] def ya:bJ Tryz.prog 196:=⟨.of Tryz.f196⟩
@[go_sem] def Fl:bJ Tryz.prog 197:=⟨.of Tryz.f197⟩
@[go_sem] def Iu:bJ Tryz.prog 198:=⟨.of Tryz.f198⟩
@[go_sem] def Iv:bJ Tryz.prog 199:=⟨.of Tryz.f199⟩
@[go_sem] def KM:bJ Tryz.prog 200:=⟨.of Tryz.f200⟩
@[go_sem] def Fm:bJ Tryz.prog 201:=⟨.of Tryz.f201⟩
@[go_sem] def KN:bJ Tryz.prog 202:=⟨.of Tryz.f202⟩
@[go_sem] def MF:bJ Tryz.prog 203:=⟨.of Tryz.f203⟩
@[go_sem] def vO:bJ Tryz.prog 204:=⟨.of Tryz.f204⟩
@[go_sem] def GN:bJ Tryz.prog 205:=⟨.of Tryz.f205⟩
@[go_sem] def GO:bJ Tryz.prog 206:=⟨.of Tryz.f206⟩
@[go_sem] def tz:bJ Tryz.prog 207:=⟨.of Tryz.f207⟩
@[go_sem] def Iw:bJ Tryz.prog 219:=⟨.of Tryz.f219⟩
@[go_sem] def BY:bJ Tryz.prog 220:=⟨.of Tryz.f220⟩
@[go_sem] def KO:bJ Tryz.prog 221:=⟨.ofB Tryz.f221⟩
@[go_sem] def yc:bJ Tryz.prog 222:=⟨.of Tryz.f222⟩
@[go_sem] def Ix:bJ Tryz.prog 223:=⟨.of Tryz.f223⟩
end Go.Abs
namespace Go.Abs
open Go.Proofs
set_option maxRecDepth 100000
set_option maxHeartbeats 4000000
@[go_sem] def Iy:bJ Tryz.prog 104:=⟨.of Tryz.f104⟩
@[go_sem] def OW:bJ Tryz.prog 105:=⟨.of Tryz.f105⟩
@[go_sem] def MG:bJ Tryz.prog 106:=⟨.of Tryz.f106⟩
@[go_sem] def lE:bJ Tryz.prog 107:=⟨.of Tryz.f107⟩
abbrev Q0Z:AC:= .sub [1] lE.body
abbrev Q10:AC:= .sub [1,1] lE.body
abbrev Q11:AC:= .sub [1,1,1] lE.body
abbrev Q12:AC:= .sub [1,1,1,1] lE.body
abbrev Q13:AC:= .sub [1,1,1,1,1] lE.body
@[go_sem] def KP:bJ Tryz.prog 108:=⟨.of Tryz.f108⟩
@[go_sem] def ry:bJ Tryz.prog 109:=⟨.of Tryz.f109⟩
@[go_sem] def KQ:bJ Tryz.prog 110:=⟨.of Tryz.f110⟩
@[go_sem] def xI:bJ Tryz.prog 111:=⟨.of Tryz.f111⟩
@[go_sem] def EG:bJ Tryz.prog 112:=⟨.of Tryz.f112⟩
@[go_sem] def xJ:bJ Tryz.prog 113:=⟨.of Tryz.f113⟩
@[go_sem] def Ej:bJ Tryz.prog 114:=⟨.of Tryz.f114⟩
@[go_sem] def vP:bJ Tryz.prog 115:=⟨.of Tryz.f115⟩
@[go_sem] def zY:bJ Tryz.prog 116:=⟨.of Tryz.f116⟩
@[go_sem] def Iz:bJ Tryz.prog 117:=⟨.of Tryz.f117⟩
@[go_sem] def IA:bJ Tryz.prog 118:=⟨.of Tryz.f118⟩
@[go_sem] def Ek:bJ Tryz.prog 119:=⟨.of Tryz.f119⟩
@[go_sem] def B0:bJ Tryz.prog 120:=⟨.of Tryz.f120⟩
@[go_sem] def sJ:bJ Tryz.prog 121:=⟨.of Tryz.f121⟩
abbrev Q14:AC:= .sub [1,1,0,0] sJ.body
@[go_sem] def Fo:bJ Tryz.prog 122:=⟨.of Tryz.f122⟩
@[go_sem] def IB:bJ Tryz.prog 123:=⟨.of Tryz.f123⟩
@[go_sem] def IC:bJ Tryz.prog 124:=⟨.of Tryz.f124⟩
@[go_sem] def MH:bJ Tryz.prog 125:=⟨.of Tryz.f125⟩
@[go_sem] def lr:bJ Tryz.prog 126:=⟨.of Tryz.f126⟩
@[go_sem] def nV:bJ Tryz.prog 127:=⟨.of Tryz.f127⟩
@[go_sem] def GQ:bJ Tryz.prog 128:=⟨.of Tryz.f128⟩
@[go_sem] def tA:bJ Tryz.prog 129:=⟨.of Tryz.f129⟩
@[go_sem] def El:bJ Tryz.prog 130:=⟨.of Tryz.f130⟩
@[go_sem] def GR:bJ Tryz.prog 131:=⟨.of Tryz.f131⟩
@[go_sem] def zZ:bJ Tryz.prog 132:=⟨.of Tryz.f132⟩
@[go_sem] def z6:bJ Tryz.prog 133:=⟨.of Tryz.f133⟩
@[go_sem] def KR:bJ Tryz.prog 134:=⟨.of Tryz.f134⟩
@[go_sem] def rf:bJ Tryz.prog 135:=⟨.of Tryz.f135⟩
@[go_sem] def wg:bJ Tryz.prog 136:=⟨.of Tryz.f136⟩
@[go_sem] def Fp:bJ Tryz.prog 137:=⟨.of Tryz.f137⟩
@[go_sem] def KS:bJ Tryz.prog 141:=⟨.of Tryz.f141⟩
@[go_sem] def ID:bJ Tryz.prog 142:=⟨.of Tryz.f142⟩
@[go_sem] def IE:bJ Tryz.prog 143:=⟨.of Tryz.f143⟩
@[go_sem] def GU:bJ Tryz.prog 144:=⟨.of Tryz.f144⟩
@[go_sem] def p8:bJ Tryz.prog 145:=⟨.of Tryz.f145⟩
end Go.Abs

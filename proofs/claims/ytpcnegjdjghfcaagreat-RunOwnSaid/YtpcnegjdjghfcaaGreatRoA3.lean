/-
  What is proved here: part 3 of the road to the claim (Have2, Have4).
  No conditions.
-/
import Derived.Test.YtpcnegjdjghfcaaGreatRoA1
import Derived.Test.YtpcnegjdjghfcaaGreatProg
import Derived.KernelRfl

set_option linter.unusedSimpArgs false
set_option linter.unusedVariables false
namespace Go.Abs
open Go.Proofs
set_option maxRecDepth 100000
set_option maxHeartbeats 4000000
@[go_sem] def BQ:bH Tryz.prog 71:=⟨.of Tryz.f71⟩
@[go_sem] def zS:bH Tryz.prog 72:=⟨.of Tryz.f72⟩
@[go_sem] def Ht:bH Tryz.prog 73:=⟨.of Tryz.f73⟩
@[go_sem] def BR:bH Tryz.prog 74:=⟨.of Tryz.f74⟩
@[go_sem] def Kn:bH Tryz.prog 75:=⟨.of Tryz.f75⟩
@[go_sem] def Ko:bH Tryz.prog 76:=⟨.of Tryz.f76⟩
@[go_sem] def F8:bH Tryz.prog 77:=⟨.of Tryz.f77⟩
@[go_sem] def DJ:bH Tryz.prog 78:=⟨.of Tryz.f78⟩
@[go_sem] def uu:bH Tryz.prog 79:=⟨.of Tryz.f79⟩
abbrev Q0T:AC:= .sub [1,1,0,0] uu.body
@[go_sem] def Hu:bH Tryz.prog 80:=⟨.of Tryz.f80⟩
@[go_sem] def Kp:bH Tryz.prog 81:=⟨.of Tryz.f81⟩
@[go_sem] def Kq:bH Tryz.prog 82:=⟨.of Tryz.f82⟩
@[go_sem] def Pf:bH Tryz.prog 83:=⟨.of Tryz.f83⟩
@[go_sem] def l8:bH Tryz.prog 84:=⟨.of Tryz.f84⟩
@[go_sem] def oY:bH Tryz.prog 85:=⟨.of Tryz.f85⟩
@[go_sem] def IY:bH Tryz.prog 86:=⟨.of Tryz.f86⟩
@[go_sem] def M5:bH Tryz.prog 87:=⟨.of Tryz.f87⟩
@[go_sem] def sN:bH Tryz.prog 88:=⟨.of Tryz.f88⟩
@[go_sem] def M6:bH Tryz.prog 89:=⟨.of Tryz.f89⟩
@[go_sem] def zp:bH Tryz.prog 90:=⟨.of Tryz.f90⟩
@[go_sem] def Gz:bH Tryz.prog 91:=⟨.of Tryz.f91⟩
@[go_sem] def zr:bH Tryz.prog 92:=⟨.of Tryz.f92⟩
@[go_sem] def F9:bH Tryz.prog 93:=⟨.of Tryz.f93⟩
@[go_sem] def xj:bH Tryz.prog 94:=⟨.of Tryz.f94⟩
@[go_sem] def Kr:bH Tryz.prog 95:=⟨.of Tryz.f95⟩
@[go_sem] def pV:bH Tryz.prog 96:=⟨.of Tryz.f96⟩
@[go_sem] def uS:bH Tryz.prog 97:=⟨.of Tryz.f97⟩
@[go_sem] def IZ:bH Tryz.prog 98:=⟨.of Tryz.f98⟩
@[go_sem] def uT:bH Tryz.prog 99:=⟨.of Tryz.f99⟩
@[go_sem] def Ga:bH Tryz.prog 100:=⟨.of Tryz.f100⟩
@[go_sem] def I0:bH Tryz.prog 101:=⟨.of Tryz.f101⟩
@[go_sem] def BS:bH Tryz.prog 102:=⟨.of Tryz.f102⟩
@[go_sem] def BT:bH Tryz.prog 103:=⟨.of Tryz.f103⟩
@[go_sem] def M7:bH Tryz.prog 104:=⟨.of Tryz.f104⟩
@[go_sem] def sB:bH Tryz.prog 105:=⟨.of Tryz.f105⟩
@[go_sem] def xI:bH Tryz.prog 106:=⟨.of Tryz.f106⟩
@[go_sem] def Hv:bH Tryz.prog 107:=⟨.of Tryz.f107⟩
@[go_sem] def Gb:bH Tryz.prog 108:=⟨.of Tryz.f108⟩
@[go_sem] def Ph:bH Tryz.prog 109:=⟨.of Tryz.f109⟩
@[go_sem] def Ks:bH Tryz.prog 110:=⟨.of Tryz.f110⟩
@[go_sem] def Kt:bH Tryz.prog 111:=⟨.of Tryz.f111⟩
@[go_sem] def Ku:bH Tryz.prog 112:=⟨.of Tryz.f112⟩
end Go.Abs
namespace Go.Abs
open Go.Proofs
set_option maxRecDepth 100000
set_option maxHeartbeats 4000000
@[go_sem] def BU:bH Tryz.prog 162:=⟨.of Tryz.f162⟩
@[go_sem] def tV:bH Tryz.prog 163:=⟨.of Tryz.f163⟩
@[go_sem] def Gc:bH Tryz.prog 164:=⟨.of Tryz.f164⟩
@[go_sem] def I1:bH Tryz.prog 165:=⟨.of Tryz.f165⟩
@[go_sem] def Kv:bH Tryz.prog 168:=⟨.of Tryz.f168⟩
@[go_sem] def Kw:bH Tryz.prog 169:=⟨.of Tryz.f169⟩
@[go_sem] def M8:bH Tryz.prog 170:=⟨.of Tryz.f170⟩
@[go_sem] def Hw:bH Tryz.prog 171:=⟨.of Tryz.f171⟩
@[go_sem] def M9:bH Tryz.prog 172:=⟨.of Tryz.f172⟩
@[go_sem] def Pj:bH Tryz.prog 173:=⟨.of Tryz.f173⟩
@[go_sem] def xk:bH Tryz.prog 174:=⟨.of Tryz.f174⟩
@[go_sem] def I2:bH Tryz.prog 175:=⟨.of Tryz.f175⟩
@[go_sem] def I3:bH Tryz.prog 176:=⟨.of Tryz.f176⟩
@[go_sem] def Na:bH Tryz.prog 177:=⟨.of Tryz.f177⟩
@[go_sem] def Pk:bH Tryz.prog 178:=⟨.of Tryz.f178⟩
@[go_sem] def zT:bH Tryz.prog 179:=⟨.of Tryz.f179⟩
@[go_sem] def Hx:bH Tryz.prog 180:=⟨.of Tryz.f180⟩
@[go_sem] def Nb:bH Tryz.prog 181:=⟨.of Tryz.f181⟩
@[go_sem] def uU:bH Tryz.prog 182:=⟨.of Tryz.f182⟩
@[go_sem] def Kx:bH Tryz.prog 194:=⟨.of Tryz.f194⟩
@[go_sem] def DK:bH Tryz.prog 195:=⟨.of Tryz.f195⟩
@[go_sem] def Nc:bH Tryz.prog 196:=⟨.ofB Tryz.f196⟩
@[go_sem] def zU:bH Tryz.prog 197:=⟨.of Tryz.f197⟩
@[go_sem] def Ky:bH Tryz.prog 198:=⟨.of Tryz.f198⟩
end Go.Abs

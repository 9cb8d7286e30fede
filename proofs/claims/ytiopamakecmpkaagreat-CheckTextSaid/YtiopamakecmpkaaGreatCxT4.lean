/-
  What is proved here: part 4 of the road to the claim (Have5, Have3).
  No conditions.
-/
import Derived.Test.YtiopamakecmpkaaGreatCxT3
import Derived.Test.YtiopamakecmpkaaGreatProg
import Derived.KernelRfl

set_option linter.unusedSimpArgs false
set_option linter.unusedVariables false
namespace Go.Abs
open Go.Proofs
set_option maxRecDepth 100000
set_option maxHeartbeats 4000000
@[go_sem] def xr:bD Tryz.prog 205:=⟨.of Tryz.f205⟩
@[go_sem] def y1:bD Tryz.prog 206:=⟨.of Tryz.f206⟩
@[go_sem] def Hg:bD Tryz.prog 207:=⟨.FQ Tryz.f207⟩
@[go_sem] def vy:bD Tryz.prog 208:=⟨.of Tryz.f208⟩
@[go_sem] def ET:bD Tryz.prog 209:=⟨.of Tryz.f209⟩
@[go_sem] def EU:bD Tryz.prog 210:=⟨.of Tryz.f210⟩
@[go_sem] def EV:bD Tryz.prog 215:=⟨.of Tryz.f215⟩
@[go_sem] def pF:bD Tryz.prog 216:=⟨.of Tryz.f216⟩
@[go_sem] def vz:bD Tryz.prog 217:=⟨.of Tryz.f217⟩
@[go_sem] def iX:bD Tryz.prog 218:=⟨.of Tryz.f218⟩
@[go_sem] def y2:bD Tryz.prog 219:=⟨.of Tryz.f219⟩
@[go_sem] def u6:bD Tryz.prog 226:=⟨.of Tryz.f226⟩
@[go_sem] def wy:bD Tryz.prog 227:=⟨.FQ Tryz.f227⟩
@[go_sem] def u7:bD Tryz.prog 228:=⟨.of Tryz.f228⟩
@[go_sem] def xu:bD Tryz.prog 229:=⟨.of Tryz.f229⟩
@[go_sem] def wz:bD Tryz.prog 230:=⟨.of Tryz.f230⟩
@[go_sem] def wA:bD Tryz.prog 231:=⟨.of Tryz.f231⟩
@[go_sem] def EW:bD Tryz.prog 233:=⟨.of Tryz.f233⟩
@[go_sem] def Dy:bD Tryz.prog 234:=⟨.of Tryz.f234⟩
@[go_sem] def uB:bD Tryz.prog 235:=⟨.of Tryz.f235⟩
@[go_sem] def Cm:bD Tryz.prog 236:=⟨.FQ Tryz.f236⟩
@[go_sem] def Hh:bD Tryz.prog 237:=⟨.of Tryz.f237⟩
@[go_sem] def xv:bD Tryz.prog 239:=⟨.of Tryz.f239⟩
@[go_sem] def wB:bD Tryz.prog 240:=⟨.of Tryz.f240⟩
@[go_sem] def qQ:bD Tryz.prog 241:=⟨.of Tryz.f241⟩
@[go_sem] def yj:bD Tryz.prog 242:=⟨.of Tryz.f242⟩
@[go_sem] def Dz:bD Tryz.prog 243:=⟨.of Tryz.f243⟩
@[go_sem] def yk:bD Tryz.prog 244:=⟨.of Tryz.f244⟩
@[go_sem] def I0:bD Tryz.prog 245:=⟨.of Tryz.f245⟩
end Go.Abs
namespace Go.Abs
open Go.Proofs
set_option maxRecDepth 100000
set_option maxHeartbeats 4000000
@[go_sem] def EX:bD Tryz.prog 120:=⟨.of Tryz.f120⟩
@[go_sem] def xw:bD Tryz.prog 121:=⟨.of Tryz.f121⟩
@[go_sem] def Bw:bD Tryz.prog 122:=⟨.of Tryz.f122⟩
@[go_sem] def vA:bD Tryz.prog 123:=⟨.of Tryz.f123⟩
@[go_sem] def y3:bD Tryz.prog 124:=⟨.of Tryz.f124⟩
abbrev Q0H:AC:= .sub [1,1,1,1] y3.body
@[go_sem] def zi:bD Tryz.prog 125:=⟨.of Tryz.f125⟩
@[go_sem] def Hi:bD Tryz.prog 128:=⟨.of Tryz.f128⟩
@[go_sem] def z6:bD Tryz.prog 129:=⟨.of Tryz.f129⟩
@[go_sem] def EY:bD Tryz.prog 130:=⟨.of Tryz.f130⟩
@[go_sem] def xx:bD Tryz.prog 131:=⟨.of Tryz.f131⟩
@[go_sem] def wC:bD Tryz.prog 132:=⟨.of Tryz.f132⟩
@[go_sem] def xy:bD Tryz.prog 133:=⟨.of Tryz.f133⟩
@[go_sem] def zj:bD Tryz.prog 134:=⟨.of Tryz.f134⟩
@[go_sem] def yl:bD Tryz.prog 135:=⟨.of Tryz.f135⟩
@[go_sem] def mR:bD Tryz.prog 136:=⟨.of Tryz.f136⟩
abbrev Q0I:AC:= .sub [1,1,1,1,1,1,0,0,0] mR.body
abbrev Q0J:AC:= .sub [1,1,1,1,1,1,1] mR.body
@[go_sem] def xA:bD Tryz.prog 137:=⟨.of Tryz.f137⟩
@[go_sem] def u9:bD Tryz.prog 138:=⟨.of Tryz.f138⟩
@[go_sem] def s9:bD Tryz.prog 139:=⟨.of Tryz.f139⟩
@[go_sem] def DA:bD Tryz.prog 140:=⟨.of Tryz.f140⟩
@[go_sem] def y4:bD Tryz.prog 142:=⟨.of Tryz.f142⟩
@[go_sem] def xB:bD Tryz.prog 143:=⟨.of Tryz.f143⟩
@[go_sem] def EZ:bD Tryz.prog 148:=⟨.of Tryz.f148⟩
@[go_sem] def y5:bD Tryz.prog 149:=⟨.of Tryz.f149⟩
@[go_sem] def kf:bD Tryz.prog 150:=⟨.of Tryz.f150⟩
abbrev Q0K:AC:= .sub [1] kf.body
abbrev Q0L:AC:= .sub [1,1] kf.body
abbrev Q0M:AC:= .sub [1,1,1] kf.body
abbrev Q0N:AC:= .sub [1,1,1,1] kf.body
abbrev Q0O:AC:= .sub [1,1,1,1,1] kf.body
abbrev Q0P:AC:= .sub [1,1,1,1,1,1] kf.body
abbrev Q0Q:AC:= .sub [1,1,1,1,1,1,1] kf.body
@[go_sem] def Cn:bD Tryz.prog 152:=⟨.of Tryz.f152⟩
@[go_sem] def E0:bD Tryz.prog 153:=⟨.of Tryz.f153⟩
@[go_sem] def hO:bD Tryz.prog 154:=⟨.of Tryz.f154⟩
@[go_sem] def oa:bD Tryz.prog 155:=⟨.of Tryz.f155⟩
@[go_sem] def nA:bD Tryz.prog 156:=⟨.FQ Tryz.f156⟩
@[go_sem] def DB:bD Tryz.prog 157:=⟨.of Tryz.f157⟩
@[go_sem] def E1:bD Tryz.prog 158:=⟨.of Tryz.f158⟩
@[go_sem] def E2:bD Tryz.prog 159:=⟨.of Tryz.f159⟩
@[go_sem] def DC:bD Tryz.prog 160:=⟨.of Tryz.f160⟩
@[go_sem] def Hj:bD Tryz.prog 161:=⟨.of Tryz.f161⟩
@[go_sem] def xC:bD Tryz.prog 162:=⟨.of Tryz.f162⟩
@[go_sem] def qb:bD Tryz.prog 163:=⟨.of Tryz.f163⟩
@[go_sem] def Bx:bD Tryz.prog 164:=⟨.of Tryz.f164⟩
@[go_sem] def DD:bD Tryz.prog 165:=⟨.of Tryz.f165⟩
end Go.Abs

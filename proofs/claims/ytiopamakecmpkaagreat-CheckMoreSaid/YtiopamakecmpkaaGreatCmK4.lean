/-
  What is proved here: part 4 of the road to the claim (Have5, Have3).
  No conditions.
-/
import Derived.Test.YtiopamakecmpkaaGreatCmK1
import Derived.Test.YtiopamakecmpkaaGreatProg
import Derived.KernelRfl

set_option linter.unusedSimpArgs false
set_option linter.unusedVariables false
namespace Go.Abs
open Go.Proofs
set_option maxRecDepth 100000
set_option maxHeartbeats 4000000
@[go_sem] def vv:bK Tryz.prog 205:=⟨.of Tryz.f205⟩
@[go_sem] def xo:bK Tryz.prog 206:=⟨.of Tryz.f206⟩
@[go_sem] def E5:bK Tryz.prog 207:=⟨.Uc Tryz.f207⟩
@[go_sem] def tO:bK Tryz.prog 208:=⟨.of Tryz.f208⟩
@[go_sem] def Da:bK Tryz.prog 209:=⟨.of Tryz.f209⟩
@[go_sem] def Db:bK Tryz.prog 210:=⟨.of Tryz.f210⟩
@[go_sem] def xp:bK Tryz.prog 219:=⟨.of Tryz.f219⟩
@[go_sem] def td:bK Tryz.prog 226:=⟨.of Tryz.f226⟩
@[go_sem] def uE:bK Tryz.prog 227:=⟨.Uc Tryz.f227⟩
@[go_sem] def tf:bK Tryz.prog 228:=⟨.of Tryz.f228⟩
@[go_sem] def vw:bK Tryz.prog 229:=⟨.of Tryz.f229⟩
@[go_sem] def uF:bK Tryz.prog 230:=⟨.of Tryz.f230⟩
@[go_sem] def uG:bK Tryz.prog 231:=⟨.of Tryz.f231⟩
@[go_sem] def E6:bK Tryz.prog 237:=⟨.of Tryz.f237⟩
@[go_sem] def vx:bK Tryz.prog 239:=⟨.of Tryz.f239⟩
@[go_sem] def uH:bK Tryz.prog 240:=⟨.of Tryz.f240⟩
@[go_sem] def wy:bK Tryz.prog 242:=⟨.of Tryz.f242⟩
@[go_sem] def By:bK Tryz.prog 243:=⟨.of Tryz.f243⟩
@[go_sem] def wz:bK Tryz.prog 244:=⟨.of Tryz.f244⟩
@[go_sem] def G5:bK Tryz.prog 245:=⟨.of Tryz.f245⟩
end Go.Abs
namespace Go.Abs
open Go.Proofs
set_option maxRecDepth 100000
set_option maxHeartbeats 4000000
@[go_sem] def Dc:bK Tryz.prog 120:=⟨.of Tryz.f120⟩
@[go_sem] def vy:bK Tryz.prog 121:=⟨.of Tryz.f121⟩
@[go_sem] def zI:bK Tryz.prog 122:=⟨.of Tryz.f122⟩
@[go_sem] def tP:bK Tryz.prog 123:=⟨.of Tryz.f123⟩
@[go_sem] def xq:bK Tryz.prog 124:=⟨.of Tryz.f124⟩
abbrev Q0F:AC:= .sub [1,1,1,1] xq.body
@[go_sem] def xE:bK Tryz.prog 125:=⟨.of Tryz.f125⟩
@[go_sem] def E7:bK Tryz.prog 128:=⟨.of Tryz.f128⟩
@[go_sem] def yp:bK Tryz.prog 129:=⟨.of Tryz.f129⟩
@[go_sem] def Dd:bK Tryz.prog 130:=⟨.of Tryz.f130⟩
@[go_sem] def vz:bK Tryz.prog 131:=⟨.of Tryz.f131⟩
@[go_sem] def uI:bK Tryz.prog 132:=⟨.of Tryz.f132⟩
@[go_sem] def vA:bK Tryz.prog 133:=⟨.of Tryz.f133⟩
@[go_sem] def xF:bK Tryz.prog 134:=⟨.of Tryz.f134⟩
@[go_sem] def wA:bK Tryz.prog 135:=⟨.of Tryz.f135⟩
@[go_sem] def lq:bK Tryz.prog 136:=⟨.of Tryz.f136⟩
abbrev Q0G:AC:= .sub [1,1,1,1,1,1,0,0,0] lq.body
abbrev Q0H:AC:= .sub [1,1,1,1,1,1,1] lq.body
@[go_sem] def vB:bK Tryz.prog 137:=⟨.of Tryz.f137⟩
@[go_sem] def ti:bK Tryz.prog 138:=⟨.of Tryz.f138⟩
@[go_sem] def rI:bK Tryz.prog 139:=⟨.of Tryz.f139⟩
@[go_sem] def Bz:bK Tryz.prog 140:=⟨.of Tryz.f140⟩
@[go_sem] def xr:bK Tryz.prog 142:=⟨.of Tryz.f142⟩
@[go_sem] def vC:bK Tryz.prog 143:=⟨.of Tryz.f143⟩
@[go_sem] def vD:bK Tryz.prog 144:=⟨.of Tryz.f144⟩
@[go_sem] def nj:bK Tryz.prog 145:=⟨.of Tryz.f145⟩
@[go_sem] def AJ:bK Tryz.prog 146:=⟨.of Tryz.f146⟩
@[go_sem] def De:bK Tryz.prog 148:=⟨.of Tryz.f148⟩
@[go_sem] def xu:bK Tryz.prog 149:=⟨.of Tryz.f149⟩
@[go_sem] def jg:bK Tryz.prog 150:=⟨.of Tryz.f150⟩
abbrev Q0I:AC:= .sub [1] jg.body
abbrev Q0J:AC:= .sub [1,1] jg.body
abbrev Q0K:AC:= .sub [1,1,1] jg.body
abbrev Q0L:AC:= .sub [1,1,1,1] jg.body
abbrev Q0M:AC:= .sub [1,1,1,1,1] jg.body
abbrev Q0N:AC:= .sub [1,1,1,1,1,1] jg.body
abbrev Q0O:AC:= .sub [1,1,1,1,1,1,1] jg.body
@[go_sem] def Df:bK Tryz.prog 158:=⟨.of Tryz.f158⟩
@[go_sem] def Dg:bK Tryz.prog 159:=⟨.of Tryz.f159⟩
@[go_sem] def BA:bK Tryz.prog 160:=⟨.of Tryz.f160⟩
@[go_sem] def E8:bK Tryz.prog 161:=⟨.of Tryz.f161⟩
@[go_sem] def vE:bK Tryz.prog 162:=⟨.of Tryz.f162⟩
@[go_sem] def oM:bK Tryz.prog 163:=⟨.of Tryz.f163⟩
@[go_sem] def zJ:bK Tryz.prog 164:=⟨.of Tryz.f164⟩
@[go_sem] def BB:bK Tryz.prog 165:=⟨.of Tryz.f165⟩
end Go.Abs

/-
  What is proved here: part 3 of the road to the claim (Have2, Have4).
  No conditions.
-/
import Derived.Test.YtiopamakecmpkaaGreatCxT2
import Derived.Test.YtiopamakecmpkaaGreatProg
import Derived.KernelRfl

set_option linter.unusedSimpArgs false
set_option linter.unusedVariables false
namespace Go.Abs
open Go.Proofs
set_option maxRecDepth 100000
set_option maxHeartbeats 4000000
@[go_sem] def Dp:bD Tryz.prog 82:=⟨.of Tryz.f82⟩
@[go_sem] def G6:bD Tryz.prog 83:=⟨.of Tryz.f83⟩
@[go_sem] def G7:bD Tryz.prog 84:=⟨.of Tryz.f84⟩
@[go_sem] def EK:bD Tryz.prog 86:=⟨.of Tryz.f86⟩
@[go_sem] def IV:bD Tryz.prog 91:=⟨.of Tryz.f91⟩
@[go_sem] def IW:bD Tryz.prog 95:=⟨.of Tryz.f95⟩
@[go_sem] def G8:bD Tryz.prog 96:=⟨.of Tryz.f96⟩
@[go_sem] def IX:bD Tryz.prog 97:=⟨.of Tryz.f97⟩
@[go_sem] def EL:bD Tryz.prog 99:=⟨.of Tryz.f99⟩
@[go_sem] def EM:bD Tryz.prog 100:=⟨.of Tryz.f100⟩
@[go_sem] def EN:bD Tryz.prog 101:=⟨.of Tryz.f101⟩
@[go_sem] def G9:bD Tryz.prog 102:=⟨.of Tryz.f102⟩
@[go_sem] def mH:bD Tryz.prog 103:=⟨.of Tryz.f103⟩
@[go_sem] def Dq:bD Tryz.prog 104:=⟨.of Tryz.f104⟩
@[go_sem] def Dr:bD Tryz.prog 105:=⟨.of Tryz.f105⟩
@[go_sem] def o7:bD Tryz.prog 106:=⟨.of Tryz.f106⟩
abbrev Q08:AC:= .sub [1,1,1,1,0,1,0,0] o7.body
abbrev Q09:AC:= .sub [1,1,1,1,1] o7.body
@[go_sem] def IY:bD Tryz.prog 107:=⟨.of Tryz.f107⟩
@[go_sem] def Ds:bD Tryz.prog 108:=⟨.of Tryz.f108⟩
@[go_sem] def Dt:bD Tryz.prog 109:=⟨.of Tryz.f109⟩
@[go_sem] def Ha:bD Tryz.prog 110:=⟨.of Tryz.f110⟩
@[go_sem] def Hb:bD Tryz.prog 111:=⟨.FQ Tryz.f111⟩
@[go_sem] def Du:bD Tryz.prog 112:=⟨.of Tryz.f112⟩
@[go_sem] def Dv:bD Tryz.prog 113:=⟨.of Tryz.f113⟩
@[go_sem] def lV:bD Tryz.prog 114:=⟨.FQ Tryz.f114⟩
abbrev Q0A:AC:= .sub [1,1,1,1,1,0,0,0] lV.body
abbrev Q0B:AC:= .sub [1,1,1,1,1,1] lV.body
@[go_sem] def EO:bD Tryz.prog 115:=⟨.FQ Tryz.f115⟩
@[go_sem] def ku:bD Tryz.prog 116:=⟨.of Tryz.f116⟩
abbrev Q0C:AC:= .sub [1] ku.body
abbrev Q0D:AC:= .sub [1,1] ku.body
abbrev Q0E:AC:= .sub [1,1,1] ku.body
abbrev Q0F:AC:= .sub [1,1,1,1] ku.body
abbrev Q0G:AC:= .sub [1,1,1,1,1] ku.body
@[go_sem] def zZ:bD Tryz.prog 117:=⟨.of Tryz.f117⟩
@[go_sem] def sG:bD Tryz.prog 118:=⟨.of Tryz.f118⟩
@[go_sem] def EP:bD Tryz.prog 119:=⟨.of Tryz.f119⟩
end Go.Abs
namespace Go.Abs
open Go.Proofs
set_option maxRecDepth 100000
set_option maxHeartbeats 4000000
@[go_sem] def rm:bD Tryz.prog 166:=⟨.of Tryz.f166⟩
@[go_sem] def xn:bD Tryz.prog 167:=⟨.of Tryz.f167⟩
@[go_sem] def xo:bD Tryz.prog 170:=⟨.of Tryz.f170⟩
@[go_sem] def xp:bD Tryz.prog 171:=⟨.of Tryz.f171⟩
@[go_sem] def ql:bD Tryz.prog 172:=⟨.of Tryz.f172⟩
@[go_sem] def Hc:bD Tryz.prog 173:=⟨.of Tryz.f173⟩
@[go_sem] def Ck:bD Tryz.prog 174:=⟨.of Tryz.f174⟩
@[go_sem] def s8:bD Tryz.prog 175:=⟨.of Tryz.f175⟩
@[go_sem] def ER:bD Tryz.prog 177:=⟨.of Tryz.f177⟩
@[go_sem] def ES:bD Tryz.prog 178:=⟨.of Tryz.f178⟩
@[go_sem] def Hd:bD Tryz.prog 179:=⟨.of Tryz.f179⟩
@[go_sem] def He:bD Tryz.prog 180:=⟨.of Tryz.f180⟩
@[go_sem] def IZ:bD Tryz.prog 181:=⟨.of Tryz.f181⟩
@[go_sem] def Dw:bD Tryz.prog 184:=⟨.of Tryz.f184⟩
@[go_sem] def Dx:bD Tryz.prog 185:=⟨.of Tryz.f185⟩
@[go_sem] def yZ:bD Tryz.prog 186:=⟨.of Tryz.f186⟩
@[go_sem] def xq:bD Tryz.prog 187:=⟨.of Tryz.f187⟩
@[go_sem] def y0:bD Tryz.prog 188:=⟨.of Tryz.f188⟩
@[go_sem] def eK:bD Tryz.prog 189:=⟨.of Tryz.f189⟩
@[go_sem] def Cl:bD Tryz.prog 190:=⟨.of Tryz.f190⟩
@[go_sem] def Hf:bD Tryz.prog 191:=⟨.of Tryz.f191⟩
@[go_sem] def qP:bD Tryz.prog 192:=⟨.of Tryz.f192⟩
@[go_sem] def u5:bD Tryz.prog 204:=⟨.FQ Tryz.f204⟩
end Go.Abs

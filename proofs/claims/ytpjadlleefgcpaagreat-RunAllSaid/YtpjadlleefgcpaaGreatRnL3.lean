/-
  What is proved here: part 3 of the road to the claim (Have2, Have4).
  No conditions.
-/
import Derived.Test.YtpjadlleefgcpaaGreatRnL2
import Derived.Test.YtpjadlleefgcpaaGreatProg
import Derived.KernelRfl

set_option linter.unusedSimpArgs false
set_option linter.unusedVariables false
namespace Go.Abs
open Go.Proofs
set_option maxRecDepth 100000
set_option maxHeartbeats 4000000
@[go_sem] def Ic:bJ Tryz.prog 64:=⟨.of Tryz.f64⟩
@[go_sem] def oK:bJ Tryz.prog 65:=⟨.of Tryz.f65⟩
@[go_sem] def tw:bJ Tryz.prog 66:=⟨.of Tryz.f66⟩
@[go_sem] def Mv:bJ Tryz.prog 68:=⟨.of Tryz.f68⟩
@[go_sem] def Kz:bJ Tryz.prog 69:=⟨.of Tryz.f69⟩
@[go_sem] def Mw:bJ Tryz.prog 70:=⟨.of Tryz.f70⟩
@[go_sem] def CS:bJ Tryz.prog 71:=⟨.of Tryz.f71⟩
@[go_sem] def CT:bJ Tryz.prog 72:=⟨.of Tryz.f72⟩
@[go_sem] def Ie:bJ Tryz.prog 73:=⟨.of Tryz.f73⟩
@[go_sem] def A2:bJ Tryz.prog 74:=⟨.of Tryz.f74⟩
@[go_sem] def ub:bJ Tryz.prog 75:=⟨.of Tryz.f75⟩
@[go_sem] def zQ:bJ Tryz.prog 76:=⟨.of Tryz.f76⟩
@[go_sem] def zR:bJ Tryz.prog 77:=⟨.of Tryz.f77⟩
@[go_sem] def oM:bJ Tryz.prog 78:=⟨.of Tryz.f78⟩
abbrev Q0I:AC:= .sub [1,1,1,0,1,0,0] oM.body
abbrev Q0J:AC:= .sub [1,1,1,1] oM.body
@[go_sem] def zS:bJ Tryz.prog 79:=⟨.of Tryz.f79⟩
@[go_sem] def Eh:bJ Tryz.prog 80:=⟨.of Tryz.f80⟩
@[go_sem] def BU:bJ Tryz.prog 81:=⟨.of Tryz.f81⟩
@[go_sem] def B7:bJ Tryz.prog 82:=⟨.of Tryz.f82⟩
@[go_sem] def tx:bJ Tryz.prog 83:=⟨.of Tryz.f83⟩
@[go_sem] def Ig:bJ Tryz.prog 84:=⟨.of Tryz.f84⟩
@[go_sem] def KA:bJ Tryz.prog 85:=⟨.of Tryz.f85⟩
@[go_sem] def GD:bJ Tryz.prog 86:=⟨.of Tryz.f86⟩
@[go_sem] def zT:bJ Tryz.prog 87:=⟨.of Tryz.f87⟩
@[go_sem] def na:bJ Tryz.prog 88:=⟨.of Tryz.f88⟩
@[go_sem] def Ih:bJ Tryz.prog 89:=⟨.of Tryz.f89⟩
@[go_sem] def qn:bJ Tryz.prog 90:=⟨.of Tryz.f90⟩
@[go_sem] def nT:bJ Tryz.prog 91:=⟨.of Tryz.f91⟩
abbrev Q0K:AC:= .sub [1,1,0,1,0,0] nT.body
abbrev Q0L:AC:= .sub [1,1,1] nT.body
@[go_sem] def nU:bJ Tryz.prog 92:=⟨.of Tryz.f92⟩
abbrev Q0M:AC:= .sub [1,1,0,1,0,0] nU.body
abbrev Q0N:AC:= .sub [1,1,1] nU.body
@[go_sem] def nc:bJ Tryz.prog 93:=⟨.of Tryz.f93⟩
abbrev Q0O:AC:= .sub [1,0,0] nc.body
@[go_sem] def gG:bJ Tryz.prog 94:=⟨.of Tryz.f94⟩
@[go_sem] def xZ:bJ Tryz.prog 95:=⟨.of Tryz.f95⟩
@[go_sem] def x7:bJ Tryz.prog 96:=⟨.of Tryz.f96⟩
@[go_sem] def zU:bJ Tryz.prog 97:=⟨.of Tryz.f97⟩
@[go_sem] def x8:bJ Tryz.prog 98:=⟨.of Tryz.f98⟩
@[go_sem] def KB:bJ Tryz.prog 99:=⟨.of Tryz.f99⟩
end Go.Abs
namespace Go.Abs
open Go.Proofs
set_option maxRecDepth 100000
set_option maxHeartbeats 4000000
@[go_sem] def A3:bJ Tryz.prog 146:=⟨.of Tryz.f146⟩
@[go_sem] def Mx:bJ Tryz.prog 147:=⟨.of Tryz.f147⟩
@[go_sem] def Ii:bJ Tryz.prog 148:=⟨.of Tryz.f148⟩
@[go_sem] def Ij:bJ Tryz.prog 149:=⟨.of Tryz.f149⟩
@[go_sem] def Ik:bJ Tryz.prog 150:=⟨.of Tryz.f150⟩
@[go_sem] def GF:bJ Tryz.prog 151:=⟨.of Tryz.f151⟩
@[go_sem] def KD:bJ Tryz.prog 152:=⟨.of Tryz.f152⟩
@[go_sem] def KE:bJ Tryz.prog 153:=⟨.of Tryz.f153⟩
@[go_sem] def OV:bJ Tryz.prog 154:=⟨.of Tryz.f154⟩
@[go_sem] def ow:bJ Tryz.prog 155:=⟨.of Tryz.f155⟩
@[go_sem] def GG:bJ Tryz.prog 156:=⟨.of Tryz.f156⟩
@[go_sem] def GH:bJ Tryz.prog 157:=⟨.of Tryz.f157⟩
@[go_sem] def q9:bJ Tryz.prog 158:=⟨.of Tryz.f158⟩
abbrev Q0P:AC:= .sub [1,1,1,1,0,1,0,0] q9.body
abbrev Q0Q:AC:= .sub [1,1,1,1,1] q9.body
@[go_sem] def KF:bJ Tryz.prog 159:=⟨.of Tryz.f159⟩
@[go_sem] def GK:bJ Tryz.prog 160:=⟨.of Tryz.f160⟩
@[go_sem] def Il:bJ Tryz.prog 161:=⟨.of Tryz.f161⟩
@[go_sem] def My:bJ Tryz.prog 162:=⟨.of Tryz.f162⟩
@[go_sem] def Mz:bJ Tryz.prog 163:=⟨.of Tryz.f163⟩
@[go_sem] def ox:bJ Tryz.prog 164:=⟨.of Tryz.f164⟩
@[go_sem] def mP:bJ Tryz.prog 165:=⟨.of Tryz.f165⟩
@[go_sem] def Io:bJ Tryz.prog 166:=⟨.of Tryz.f166⟩
@[go_sem] def vw:bJ Tryz.prog 167:=⟨.of Tryz.f167⟩
@[go_sem] def Ip:bJ Tryz.prog 168:=⟨.of Tryz.f168⟩
@[go_sem] def Iq:bJ Tryz.prog 169:=⟨.of Tryz.f169⟩
@[go_sem] def zV:bJ Tryz.prog 170:=⟨.of Tryz.f170⟩
@[go_sem] def x9:bJ Tryz.prog 171:=⟨.of Tryz.f171⟩
@[go_sem] def BV:bJ Tryz.prog 172:=⟨.of Tryz.f172⟩
abbrev Q0R:AC:= .sub [1,1,1,1] BV.body
@[go_sem] def KH:bJ Tryz.prog 175:=⟨.of Tryz.f175⟩
@[go_sem] def MA:bJ Tryz.prog 176:=⟨.of Tryz.f176⟩
@[go_sem] def Ir:bJ Tryz.prog 177:=⟨.of Tryz.f177⟩
@[go_sem] def MB:bJ Tryz.prog 178:=⟨.of Tryz.f178⟩
@[go_sem] def Is:bJ Tryz.prog 179:=⟨.of Tryz.f179⟩
@[go_sem] def BW:bJ Tryz.prog 180:=⟨.of Tryz.f180⟩
@[go_sem] def lq:bJ Tryz.prog 181:=⟨.of Tryz.f181⟩
abbrev Q0S:AC:= .sub [1] lq.body
abbrev Q0T:AC:= .sub [1,1] lq.body
abbrev Q0U:AC:= .sub [1,1,1] lq.body
abbrev Q0V:AC:= .sub [1,1,1,1] lq.body
abbrev Q0W:AC:= .sub [1,1,1,1,1] lq.body
abbrev Q0X:AC:= .sub [1,1,1,1,1,1] lq.body
abbrev Q0Y:AC:= .sub [1,1,1,1,1,1,1] lq.body
@[go_sem] def zW:bJ Tryz.prog 182:=⟨.of Tryz.f182⟩
@[go_sem] def Fk:bJ Tryz.prog 183:=⟨.of Tryz.f183⟩
@[go_sem] def MC:bJ Tryz.prog 184:=⟨.of Tryz.f184⟩
@[go_sem] def KI:bJ Tryz.prog 185:=⟨.of Tryz.f185⟩
@[go_sem] def MD:bJ Tryz.prog 186:=⟨.of Tryz.f186⟩
@[go_sem] def BX:bJ Tryz.prog 187:=⟨.of Tryz.f187⟩
@[go_sem] def KK:bJ Tryz.prog 188:=⟨.of Tryz.f188⟩
@[go_sem] def zX:bJ Tryz.prog 189:=⟨.of Tryz.f189⟩
@[go_sem] def sx:bJ Tryz.prog 190:=⟨.of Tryz.f190⟩
@[go_sem] def Ei:bJ Tryz.prog 191:=⟨.of Tryz.f191⟩
@[go_sem] def GM:bJ Tryz.prog 192:=⟨.of Tryz.f192⟩
end Go.Abs

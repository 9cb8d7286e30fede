/-
  What is proved here: part 4 of the road to the claim (Have3).
  No conditions.
-/
import Derived.Test.YtpcnegjdjghfcaaGreatRoA1
import Derived.Test.YtpcnegjdjghfcaaGreatProg
import Derived.KernelRfl

set_option linter.unusedSimpArgs false
set_option linter.unusedVariables false
namespace Go.Abs
open Go.Proofs
set_option maxRecDepth 100000
set_option maxHeartbeats 4000000
@[go_sem] def I4:bH Tryz.prog 113:=⟨.of Tryz.f113⟩
@[go_sem] def Nd:bH Tryz.prog 114:=⟨.of Tryz.f114⟩
@[go_sem] def Nf:bH Tryz.prog 115:=⟨.of Tryz.f115⟩
@[go_sem] def RI:bH Tryz.prog 116:=⟨.of Tryz.f116⟩
@[go_sem] def pC:bH Tryz.prog 117:=⟨.of Tryz.f117⟩
@[go_sem] def I5:bH Tryz.prog 118:=⟨.of Tryz.f118⟩
@[go_sem] def I6:bH Tryz.prog 119:=⟨.of Tryz.f119⟩
@[go_sem] def sC:bH Tryz.prog 120:=⟨.of Tryz.f120⟩
abbrev Q0U:AC:= .sub [1,1,1,1,0,1,0,0] sC.body
abbrev Q0V:AC:= .sub [1,1,1,1,1] sC.body
@[go_sem] def Ng:bH Tryz.prog 121:=⟨.of Tryz.f121⟩
@[go_sem] def I7:bH Tryz.prog 122:=⟨.of Tryz.f122⟩
@[go_sem] def Kz:bH Tryz.prog 123:=⟨.of Tryz.f123⟩
@[go_sem] def Pn:bH Tryz.prog 124:=⟨.of Tryz.f124⟩
@[go_sem] def Po:bH Tryz.prog 125:=⟨.of Tryz.f125⟩
@[go_sem] def pD:bH Tryz.prog 126:=⟨.of Tryz.f126⟩
@[go_sem] def nP:bH Tryz.prog 127:=⟨.of Tryz.f127⟩
@[go_sem] def KA:bH Tryz.prog 128:=⟨.of Tryz.f128⟩
@[go_sem] def Hy:bH Tryz.prog 129:=⟨.of Tryz.f129⟩
@[go_sem] def q6:bH Tryz.prog 130:=⟨.of Tryz.f130⟩
@[go_sem] def CN:bH Tryz.prog 131:=⟨.of Tryz.f131⟩
@[go_sem] def KB:bH Tryz.prog 132:=⟨.of Tryz.f132⟩
@[go_sem] def RJ:bH Tryz.prog 133:=⟨.of Tryz.f133⟩
@[go_sem] def Pp:bH Tryz.prog 134:=⟨.of Tryz.f134⟩
@[go_sem] def mz:bH Tryz.prog 135:=⟨.of Tryz.f135⟩
abbrev Q0W:AC:= .sub [1] mz.body
abbrev Q0X:AC:= .sub [1,1] mz.body
abbrev Q0Y:AC:= .sub [1,1,1] mz.body
abbrev Q0Z:AC:= .sub [1,1,1,1] mz.body
abbrev Q10:AC:= .sub [1,1,1,1,1] mz.body
@[go_sem] def wV:bH Tryz.prog 136:=⟨.of Tryz.f136⟩
@[go_sem] def KD:bH Tryz.prog 137:=⟨.of Tryz.f137⟩
@[go_sem] def KE:bH Tryz.prog 138:=⟨.of Tryz.f138⟩
@[go_sem] def BV:bH Tryz.prog 139:=⟨.of Tryz.f139⟩
@[go_sem] def zV:bH Tryz.prog 140:=⟨.of Tryz.f140⟩
@[go_sem] def DL:bH Tryz.prog 141:=⟨.of Tryz.f141⟩
abbrev Q11:AC:= .sub [1,1,1,1] DL.body
@[go_sem] def KF:bH Tryz.prog 144:=⟨.of Tryz.f144⟩
@[go_sem] def DM:bH Tryz.prog 145:=⟨.of Tryz.f145⟩
@[go_sem] def l9:bH Tryz.prog 146:=⟨.of Tryz.f146⟩
abbrev Q12:AC:= .sub [1] l9.body
abbrev Q13:AC:= .sub [1,1] l9.body
abbrev Q14:AC:= .sub [1,1,1] l9.body
abbrev Q15:AC:= .sub [1,1,1,1] l9.body
abbrev Q16:AC:= .sub [1,1,1,1,1] l9.body
abbrev Q17:AC:= .sub [1,1,1,1,1,1] l9.body
abbrev Q18:AC:= .sub [1,1,1,1,1,1,1] l9.body
@[go_sem] def BW:bH Tryz.prog 147:=⟨.of Tryz.f147⟩
@[go_sem] def Hz:bH Tryz.prog 148:=⟨.of Tryz.f148⟩
@[go_sem] def Pq:bH Tryz.prog 149:=⟨.of Tryz.f149⟩
@[go_sem] def Nh:bH Tryz.prog 150:=⟨.of Tryz.f150⟩
@[go_sem] def Pr:bH Tryz.prog 151:=⟨.of Tryz.f151⟩
@[go_sem] def DN:bH Tryz.prog 152:=⟨.of Tryz.f152⟩
@[go_sem] def Ni:bH Tryz.prog 153:=⟨.of Tryz.f153⟩
@[go_sem] def DO:bH Tryz.prog 154:=⟨.of Tryz.f154⟩
@[go_sem] def Ps:bH Tryz.prog 155:=⟨.of Tryz.f155⟩
@[go_sem] def KH:bH Tryz.prog 156:=⟨.of Tryz.f156⟩
@[go_sem] def Pu:bH Tryz.prog 157:=⟨.of Tryz.f157⟩
@[go_sem] def Nj:bH Tryz.prog 158:=⟨.of Tryz.f158⟩
@[go_sem] def KI:bH Tryz.prog 159:=⟨.of Tryz.f159⟩
@[go_sem] def KK:bH Tryz.prog 160:=⟨.of Tryz.f160⟩
@[go_sem] def I8:bH Tryz.prog 161:=⟨.of Tryz.f161⟩
end Go.Abs

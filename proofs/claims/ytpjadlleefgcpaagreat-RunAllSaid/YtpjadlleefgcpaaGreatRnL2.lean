/-
  What is proved here: part 2 of the road to the claim (Have0, Have1).
  No conditions.
-/
import Derived.Test.YtpjadlleefgcpaaGreatRnL1
import Derived.Test.YtpjadlleefgcpaaGreatProg
import Derived.KernelRfl

set_option linter.unusedSimpArgs false
set_option linter.unusedVariables false
namespace Go.Abs
open Go.Proofs
set_option maxRecDepth 100000
set_option maxHeartbeats 4000000
@[go_sem] def mO:bJ Tryz.prog 3:=⟨.of Tryz.f3⟩
@[go_sem] def Ku:bJ Tryz.prog 15:=⟨.of Tryz.f15⟩
@[go_sem] def Kv:bJ Tryz.prog 16:=⟨.of Tryz.f16⟩
@[go_sem] def ld:bJ Tryz.prog 17:=⟨.of Tryz.f17⟩
abbrev Q00:AC:= .sub [1,0] ld.body
abbrev Q01:AC:= .sub [1,0,1,1,0,1,0,0] ld.body
abbrev Q02:AC:= .sub [1,0,1,1,1] ld.body
abbrev Q03:AC:= .sub [1,0,1,1,1,1,1,1,1] ld.body
abbrev Q04:AC:= .sub [1,0,1,1,1,1,1,1,1,1,1,1,1,1,1,1,1] ld.body
abbrev Q05:AC:= .sub [1,0,1,1,1,1,1,1,1,1,1,1,1,1,1,1,1,1,1,1] ld.body
@[go_sem] def nh:bJ Tryz.prog 18:=⟨.of Tryz.f18⟩
abbrev Q06:AC:= .sub [1,1,1,1,0,0,0] nh.body
abbrev Q07:AC:= .sub [1,1,1,1,1] nh.body
@[go_sem] def Gz:bJ Tryz.prog 19:=⟨.of Tryz.f19⟩
@[go_sem] def Kw:bJ Tryz.prog 20:=⟨.of Tryz.f20⟩
@[go_sem] def we:bJ Tryz.prog 24:=⟨.of Tryz.f24⟩
@[go_sem] def GC:bJ Tryz.prog 25:=⟨.of Tryz.f25⟩
@[go_sem] def xc:bJ Tryz.prog 28:=⟨.of Tryz.f28⟩
@[go_sem] def Fj:bJ Tryz.prog 29:=⟨.of Tryz.f29⟩
@[go_sem] def Ms:bJ Tryz.prog 36:=⟨.of Tryz.f36⟩
end Go.Abs
namespace Go.Abs
open Go.Proofs
set_option maxRecDepth 100000
set_option maxHeartbeats 4000000
@[go_sem] def Kx:bJ Tryz.prog 38:=⟨.of Tryz.f38⟩
@[go_sem] def Ky:bJ Tryz.prog 39:=⟨.of Tryz.f39⟩
@[go_sem] def B5:bJ Tryz.prog 40:=⟨.of Tryz.f40⟩
@[go_sem] def qI:bJ Tryz.prog 41:=⟨.of Tryz.f41⟩
@[go_sem] def uh:bJ Tryz.prog 42:=⟨.of Tryz.f42⟩
@[go_sem] def Mt:bJ Tryz.prog 43:=⟨.of Tryz.f43⟩
@[go_sem] def pz:bJ Tryz.prog 44:=⟨.of Tryz.f44⟩
abbrev Q08:AC:= .sub [1,1,1,1,0,1,0,0] pz.body
abbrev Q09:AC:= .sub [1,1,1,1,1] pz.body
@[go_sem] def B6:bJ Tryz.prog 45:=⟨.of Tryz.f45⟩
@[go_sem] def pA:bJ Tryz.prog 46:=⟨.of Tryz.f46⟩
abbrev Q0A:AC:= .sub [1,1,0,1,0,0] pA.body
abbrev Q0B:AC:= .sub [1,1,1] pA.body
@[go_sem] def zP:bJ Tryz.prog 47:=⟨.of Tryz.f47⟩
@[go_sem] def jl:bJ Tryz.prog 48:=⟨.of Tryz.f48⟩
@[go_sem] def sI:bJ Tryz.prog 49:=⟨.of Tryz.f49⟩
@[go_sem] def Ib:bJ Tryz.prog 50:=⟨.of Tryz.f50⟩
@[go_sem] def gk:bJ Tryz.prog 51:=⟨.ofB Tryz.f51⟩
abbrev Q0C:AC:= .sub [1,1,1,0,1,0,0] gk.body
abbrev Q0D:AC:= .sub [1,1,1,1] gk.body
abbrev Q0E:AC:= .sub [1,1,1,1,0,1,0,0] gk.body
abbrev Q0F:AC:= .sub [1,1,1,1,1] gk.body
abbrev Q0G:AC:= .sub [1,1,1,1,1,0,1,0,0] gk.body
abbrev Q0H:AC:= .sub [1,1,1,1,1,1] gk.body
@[go_sem] def ey:bJ Tryz.prog 52:=⟨.ofB Tryz.f52⟩
@[go_sem] def pV:bJ Tryz.prog 53:=⟨.of Tryz.f53⟩
@[go_sem] def BT:bJ Tryz.prog 55:=⟨.of Tryz.f55⟩
@[go_sem] def Mu:bJ Tryz.prog 62:=⟨.of Tryz.f62⟩
end Go.Abs

/-
  What is proved here: the program has these functions (part 0).
  No conditions.
-/
import Derived.Test.YtecpopiacpckiaaProg
import Derived.Test.YtecpopiacpckiaaCode0
import Derived.KernelRfl
namespace Go.Abs
open Go.Proofs

theorem has3 : ∃ fn, Try.prog.funcs[3]? = some fn ∧ cF Try.prog fn = some c3 := ⟨Try.f3, by kernel_rfl, by kernel_rfl⟩
theorem has4 : ∃ fn, Try.prog.funcs[4]? = some fn ∧ cF Try.prog fn = some c4 := ⟨Try.f4, by kernel_rfl, by kernel_rfl⟩
set_option maxRecDepth 20000 in
theorem has5 : ∃ fn, Try.prog.funcs[5]? = some fn ∧ cF Try.prog fn = some c5 := ⟨Try.f5, by kernel_rfl, by kernel_rfl⟩
theorem has6 : ∃ fn, Try.prog.funcs[6]? = some fn ∧ cF Try.prog fn = some c6 := ⟨Try.f6, by kernel_rfl, by kernel_rfl⟩
theorem has7 : ∃ fn, Try.prog.funcs[7]? = some fn ∧ cF Try.prog fn = some c7 := ⟨Try.f7, by kernel_rfl, by kernel_rfl⟩
set_option maxRecDepth 20000 in
theorem has8 : ∃ fn, Try.prog.funcs[8]? = some fn ∧ cF Try.prog fn = some c8 := ⟨Try.f8, by kernel_rfl, by kernel_rfl⟩
theorem has9 : ∃ fn, Try.prog.funcs[9]? = some fn ∧ cF Try.prog fn = some c9 := ⟨Try.f9, by kernel_rfl, by kernel_rfl⟩
theorem has10 : ∃ fn, Try.prog.funcs[10]? = some fn ∧ cF Try.prog fn = some c10 := ⟨Try.f10, by kernel_rfl, by kernel_rfl⟩
theorem has11 : ∃ fn, Try.prog.funcs[11]? = some fn ∧ cF Try.prog fn = some c11 := ⟨Try.f11, by kernel_rfl, by kernel_rfl⟩
theorem has12 : ∃ fn, Try.prog.funcs[12]? = some fn ∧ cF Try.prog fn = some c12 := ⟨Try.f12, by kernel_rfl, by kernel_rfl⟩
theorem has13 : ∃ fn, Try.prog.funcs[13]? = some fn ∧ cF Try.prog fn = some c13 := ⟨Try.f13, by kernel_rfl, by kernel_rfl⟩
theorem has14 : ∃ fn, Try.prog.funcs[14]? = some fn ∧ cF Try.prog fn = some c14 := ⟨Try.f14, by kernel_rfl, by kernel_rfl⟩
theorem has15 : ∃ fn, Try.prog.funcs[15]? = some fn ∧ cF Try.prog fn = some c15 := ⟨Try.f15, by kernel_rfl, by kernel_rfl⟩
theorem has16 : ∃ fn, Try.prog.funcs[16]? = some fn ∧ cF Try.prog fn = some c16 := ⟨Try.f16, by kernel_rfl, by kernel_rfl⟩
theorem has17 : ∃ fn, Try.prog.funcs[17]? = some fn ∧ cF Try.prog fn = some c17 := ⟨Try.f17, by kernel_rfl, by kernel_rfl⟩
theorem has18 : ∃ fn, Try.prog.funcs[18]? = some fn ∧ cF Try.prog fn = some c18 := ⟨Try.f18, by kernel_rfl, by kernel_rfl⟩
theorem has19 : ∃ fn, Try.prog.funcs[19]? = some fn ∧ cF Try.prog fn = some c19 := ⟨Try.f19, by kernel_rfl, by kernel_rfl⟩
theorem has20 : ∃ fn, Try.prog.funcs[20]? = some fn ∧ cF Try.prog fn = some c20 := ⟨Try.f20, by kernel_rfl, by kernel_rfl⟩
theorem has21 : ∃ fn, Try.prog.funcs[21]? = some fn ∧ cF Try.prog fn = some c21 := ⟨Try.f21, by kernel_rfl, by kernel_rfl⟩
theorem has22 : ∃ fn, Try.prog.funcs[22]? = some fn ∧ cF Try.prog fn = some c22 := ⟨Try.f22, by kernel_rfl, by kernel_rfl⟩
theorem has23 : ∃ fn, Try.prog.funcs[23]? = some fn ∧ cF Try.prog fn = some c23 := ⟨Try.f23, by kernel_rfl, by kernel_rfl⟩
theorem has24 : ∃ fn, Try.prog.funcs[24]? = some fn ∧ cF Try.prog fn = some c24 := ⟨Try.f24, by kernel_rfl, by kernel_rfl⟩
theorem has25 : ∃ fn, Try.prog.funcs[25]? = some fn ∧ cF Try.prog fn = some c25 := ⟨Try.f25, by kernel_rfl, by kernel_rfl⟩
theorem has26 : ∃ fn, Try.prog.funcs[26]? = some fn ∧ cF Try.prog fn = some c26 := ⟨Try.f26, by kernel_rfl, by kernel_rfl⟩
theorem has27 : ∃ fn, Try.prog.funcs[27]? = some fn ∧ cF Try.prog fn = some c27 := ⟨Try.f27, by kernel_rfl, by kernel_rfl⟩
theorem has28 : ∃ fn, Try.prog.funcs[28]? = some fn ∧ cF Try.prog fn = some c28 := ⟨Try.f28, by kernel_rfl, by kernel_rfl⟩
theorem has29 : ∃ fn, Try.prog.funcs[29]? = some fn ∧ cF Try.prog fn = some c29 := ⟨Try.f29, by kernel_rfl, by kernel_rfl⟩
theorem has30 : ∃ fn, Try.prog.funcs[30]? = some fn ∧ cF Try.prog fn = some c30 := ⟨Try.f30, by kernel_rfl, by kernel_rfl⟩
theorem has31 : ∃ fn, Try.prog.funcs[31]? = some fn ∧ cF Try.prog fn = some c31 := ⟨Try.f31, by kernel_rfl, by kernel_rfl⟩
theorem has32 : ∃ fn, Try.prog.funcs[32]? = some fn ∧ cF Try.prog fn = some c32 := ⟨Try.f32, by kernel_rfl, by kernel_rfl⟩
theorem has33 : ∃ fn, Try.prog.funcs[33]? = some fn ∧ cF Try.prog fn = some c33 := ⟨Try.f33, by kernel_rfl, by kernel_rfl⟩
theorem has34 : ∃ fn, Try.prog.funcs[34]? = some fn ∧ cF Try.prog fn = some c34 := ⟨Try.f34, by kernel_rfl, by kernel_rfl⟩
theorem has35 : ∃ fn, Try.prog.funcs[35]? = some fn ∧ cF Try.prog fn = some c35 := ⟨Try.f35, by kernel_rfl, by kernel_rfl⟩
theorem has36 : ∃ fn, Try.prog.funcs[36]? = some fn ∧ cF Try.prog fn = some c36 := ⟨Try.f36, by kernel_rfl, by kernel_rfl⟩
theorem has37 : ∃ fn, Try.prog.funcs[37]? = some fn ∧ cF Try.prog fn = some c37 := ⟨Try.f37, by kernel_rfl, by kernel_rfl⟩
theorem has38 : ∃ fn, Try.prog.funcs[38]? = some fn ∧ cF Try.prog fn = some c38 := ⟨Try.f38, by kernel_rfl, by kernel_rfl⟩
theorem has39 : ∃ fn, Try.prog.funcs[39]? = some fn ∧ cF Try.prog fn = some c39 := ⟨Try.f39, by kernel_rfl, by kernel_rfl⟩
theorem has40 : ∃ fn, Try.prog.funcs[40]? = some fn ∧ cF Try.prog fn = some c40 := ⟨Try.f40, by kernel_rfl, by kernel_rfl⟩
theorem has41 : ∃ fn, Try.prog.funcs[41]? = some fn ∧ cF Try.prog fn = some c41 := ⟨Try.f41, by kernel_rfl, by kernel_rfl⟩
theorem has42 : ∃ fn, Try.prog.funcs[42]? = some fn ∧ cF Try.prog fn = some c42 := ⟨Try.f42, by kernel_rfl, by kernel_rfl⟩
theorem has43 : ∃ fn, Try.prog.funcs[43]? = some fn ∧ cF Try.prog fn = some c43 := ⟨Try.f43, by kernel_rfl, by kernel_rfl⟩
theorem has44 : ∃ fn, Try.prog.funcs[44]? = some fn ∧ cF Try.prog fn = some c44 := ⟨Try.f44, by kernel_rfl, by kernel_rfl⟩
theorem has45 : ∃ fn, Try.prog.funcs[45]? = some fn ∧ cF Try.prog fn = some c45 := ⟨Try.f45, by kernel_rfl, by kernel_rfl⟩
theorem has46 : ∃ fn, Try.prog.funcs[46]? = some fn ∧ cF Try.prog fn = some c46 := ⟨Try.f46, by kernel_rfl, by kernel_rfl⟩
theorem has47 : ∃ fn, Try.prog.funcs[47]? = some fn ∧ cF Try.prog fn = some c47 := ⟨Try.f47, by kernel_rfl, by kernel_rfl⟩
theorem has48 : ∃ fn, Try.prog.funcs[48]? = some fn ∧ cF Try.prog fn = some c48 := ⟨Try.f48, by kernel_rfl, by kernel_rfl⟩
theorem has49 : ∃ fn, Try.prog.funcs[49]? = some fn ∧ cF Try.prog fn = some c49 := ⟨Try.f49, by kernel_rfl, by kernel_rfl⟩
theorem has50 : ∃ fn, Try.prog.funcs[50]? = some fn ∧ cF Try.prog fn = some c50 := ⟨Try.f50, by kernel_rfl, by kernel_rfl⟩
theorem has51 : ∃ fn, Try.prog.funcs[51]? = some fn ∧ cF Try.prog fn = some c51 := ⟨Try.f51, by kernel_rfl, by kernel_rfl⟩
theorem has52 : ∃ fn, Try.prog.funcs[52]? = some fn ∧ cF Try.prog fn = some c52 := ⟨Try.f52, by kernel_rfl, by kernel_rfl⟩
theorem has53 : ∃ fn, Try.prog.funcs[53]? = some fn ∧ cF Try.prog fn = some c53 := ⟨Try.f53, by kernel_rfl, by kernel_rfl⟩
theorem has54 : ∃ fn, Try.prog.funcs[54]? = some fn ∧ cF Try.prog fn = some c54 := ⟨Try.f54, by kernel_rfl, by kernel_rfl⟩
theorem has55 : ∃ fn, Try.prog.funcs[55]? = some fn ∧ cF Try.prog fn = some c55 := ⟨Try.f55, by kernel_rfl, by kernel_rfl⟩
theorem has56 : ∃ fn, Try.prog.funcs[56]? = some fn ∧ cF Try.prog fn = some c56 := ⟨Try.f56, by kernel_rfl, by kernel_rfl⟩
theorem has57 : ∃ fn, Try.prog.funcs[57]? = some fn ∧ cF Try.prog fn = some c57 := ⟨Try.f57, by kernel_rfl, by kernel_rfl⟩

end Go.Abs

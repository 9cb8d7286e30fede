/-
  What is proved here: the program has these functions (part 1).
  No conditions.
-/
import Derived.Test.YtecpopiacpckiaaProg
import Derived.Test.YtecpopiacpckiaaCode1
import Derived.KernelRfl
namespace Go.Abs
open Go.Proofs

theorem has58 : ∃ fn, Try.prog.funcs[58]? = some fn ∧ cF Try.prog fn = some c58 := ⟨Try.f58, by kernel_rfl, by kernel_rfl⟩
theorem has59 : ∃ fn, Try.prog.funcs[59]? = some fn ∧ cF Try.prog fn = some c59 := ⟨Try.f59, by kernel_rfl, by kernel_rfl⟩
theorem has60 : ∃ fn, Try.prog.funcs[60]? = some fn ∧ cF Try.prog fn = some c60 := ⟨Try.f60, by kernel_rfl, by kernel_rfl⟩
theorem has61 : ∃ fn, Try.prog.funcs[61]? = some fn ∧ cF Try.prog fn = some c61 := ⟨Try.f61, by kernel_rfl, by kernel_rfl⟩
theorem has62 : ∃ fn, Try.prog.funcs[62]? = some fn ∧ cF Try.prog fn = some c62 := ⟨Try.f62, by kernel_rfl, by kernel_rfl⟩
theorem has63 : ∃ fn, Try.prog.funcs[63]? = some fn ∧ cF Try.prog fn = some c63 := ⟨Try.f63, by kernel_rfl, by kernel_rfl⟩
theorem has64 : ∃ fn, Try.prog.funcs[64]? = some fn ∧ cF Try.prog fn = some c64 := ⟨Try.f64, by kernel_rfl, by kernel_rfl⟩
theorem has65 : ∃ fn, Try.prog.funcs[65]? = some fn ∧ cF Try.prog fn = some c65 := ⟨Try.f65, by kernel_rfl, by kernel_rfl⟩
theorem has66 : ∃ fn, Try.prog.funcs[66]? = some fn ∧ cF Try.prog fn = some c66 := ⟨Try.f66, by kernel_rfl, by kernel_rfl⟩
theorem has67 : ∃ fn, Try.prog.funcs[67]? = some fn ∧ cF Try.prog fn = some c67 := ⟨Try.f67, by kernel_rfl, by kernel_rfl⟩
theorem has68 : ∃ fn, Try.prog.funcs[68]? = some fn ∧ cF Try.prog fn = some c68 := ⟨Try.f68, by kernel_rfl, by kernel_rfl⟩
theorem has69 : ∃ fn, Try.prog.funcs[69]? = some fn ∧ cF Try.prog fn = some c69 := ⟨Try.f69, by kernel_rfl, by kernel_rfl⟩
theorem has70 : ∃ fn, Try.prog.funcs[70]? = some fn ∧ cF Try.prog fn = some c70 := ⟨Try.f70, by kernel_rfl, by kernel_rfl⟩
theorem has71 : ∃ fn, Try.prog.funcs[71]? = some fn ∧ cF Try.prog fn = some c71 := ⟨Try.f71, by kernel_rfl, by kernel_rfl⟩
theorem has72 : ∃ fn, Try.prog.funcs[72]? = some fn ∧ cF Try.prog fn = some c72 := ⟨Try.f72, by kernel_rfl, by kernel_rfl⟩
theorem has73 : ∃ fn, Try.prog.funcs[73]? = some fn ∧ cF Try.prog fn = some c73 := ⟨Try.f73, by kernel_rfl, by kernel_rfl⟩
theorem has74 : ∃ fn, Try.prog.funcs[74]? = some fn ∧ cF Try.prog fn = some c74 := ⟨Try.f74, by kernel_rfl, by kernel_rfl⟩
theorem has75 : ∃ fn, Try.prog.funcs[75]? = some fn ∧ cF Try.prog fn = some c75 := ⟨Try.f75, by kernel_rfl, by kernel_rfl⟩
theorem has76 : ∃ fn, Try.prog.funcs[76]? = some fn ∧ cF Try.prog fn = some c76 := ⟨Try.f76, by kernel_rfl, by kernel_rfl⟩
theorem has77 : ∃ fn, Try.prog.funcs[77]? = some fn ∧ cF Try.prog fn = some c77 := ⟨Try.f77, by kernel_rfl, by kernel_rfl⟩
theorem has78 : ∃ fn, Try.prog.funcs[78]? = some fn ∧ cF Try.prog fn = some c78 := ⟨Try.f78, by kernel_rfl, by kernel_rfl⟩
theorem has79 : ∃ fn, Try.prog.funcs[79]? = some fn ∧ cF Try.prog fn = some c79 := ⟨Try.f79, by kernel_rfl, by kernel_rfl⟩
theorem has80 : ∃ fn, Try.prog.funcs[80]? = some fn ∧ cF Try.prog fn = some c80 := ⟨Try.f80, by kernel_rfl, by kernel_rfl⟩
theorem has81 : ∃ fn, Try.prog.funcs[81]? = some fn ∧ cF Try.prog fn = some c81 := ⟨Try.f81, by kernel_rfl, by kernel_rfl⟩
theorem has82 : ∃ fn, Try.prog.funcs[82]? = some fn ∧ cF Try.prog fn = some c82 := ⟨Try.f82, by kernel_rfl, by kernel_rfl⟩
theorem has83 : ∃ fn, Try.prog.funcs[83]? = some fn ∧ cF Try.prog fn = some c83 := ⟨Try.f83, by kernel_rfl, by kernel_rfl⟩
theorem has84 : ∃ fn, Try.prog.funcs[84]? = some fn ∧ cF Try.prog fn = some c84 := ⟨Try.f84, by kernel_rfl, by kernel_rfl⟩
theorem has85 : ∃ fn, Try.prog.funcs[85]? = some fn ∧ cF Try.prog fn = some c85 := ⟨Try.f85, by kernel_rfl, by kernel_rfl⟩
theorem has86 : ∃ fn, Try.prog.funcs[86]? = some fn ∧ cF Try.prog fn = some c86 := ⟨Try.f86, by kernel_rfl, by kernel_rfl⟩
theorem has87 : ∃ fn, Try.prog.funcs[87]? = some fn ∧ cF Try.prog fn = some c87 := ⟨Try.f87, by kernel_rfl, by kernel_rfl⟩
theorem has88 : ∃ fn, Try.prog.funcs[88]? = some fn ∧ cF Try.prog fn = some c88 := ⟨Try.f88, by kernel_rfl, by kernel_rfl⟩
theorem has89 : ∃ fn, Try.prog.funcs[89]? = some fn ∧ cF Try.prog fn = some c89 := ⟨Try.f89, by kernel_rfl, by kernel_rfl⟩
theorem has90 : ∃ fn, Try.prog.funcs[90]? = some fn ∧ cF Try.prog fn = some c90 := ⟨Try.f90, by kernel_rfl, by kernel_rfl⟩
theorem has91 : ∃ fn, Try.prog.funcs[91]? = some fn ∧ cF Try.prog fn = some c91 := ⟨Try.f91, by kernel_rfl, by kernel_rfl⟩
theorem has92 : ∃ fn, Try.prog.funcs[92]? = some fn ∧ cF Try.prog fn = some c92 := ⟨Try.f92, by kernel_rfl, by kernel_rfl⟩
theorem has93 : ∃ fn, Try.prog.funcs[93]? = some fn ∧ cF Try.prog fn = some c93 := ⟨Try.f93, by kernel_rfl, by kernel_rfl⟩
theorem has94 : ∃ fn, Try.prog.funcs[94]? = some fn ∧ cF Try.prog fn = some c94 := ⟨Try.f94, by kernel_rfl, by kernel_rfl⟩
theorem has95 : ∃ fn, Try.prog.funcs[95]? = some fn ∧ cF Try.prog fn = some c95 := ⟨Try.f95, by kernel_rfl, by kernel_rfl⟩
theorem has96 : ∃ fn, Try.prog.funcs[96]? = some fn ∧ cF Try.prog fn = some c96 := ⟨Try.f96, by kernel_rfl, by kernel_rfl⟩
theorem has97 : ∃ fn, Try.prog.funcs[97]? = some fn ∧ cF Try.prog fn = some c97 := ⟨Try.f97, by kernel_rfl, by kernel_rfl⟩
theorem has98 : ∃ fn, Try.prog.funcs[98]? = some fn ∧ cF Try.prog fn = some c98 := ⟨Try.f98, by kernel_rfl, by kernel_rfl⟩
theorem has99 : ∃ fn, Try.prog.funcs[99]? = some fn ∧ cF Try.prog fn = some c99 := ⟨Try.f99, by kernel_rfl, by kernel_rfl⟩
theorem has100 : ∃ fn, Try.prog.funcs[100]? = some fn ∧ cF Try.prog fn = some c100 := ⟨Try.f100, by kernel_rfl, by kernel_rfl⟩
theorem has101 : ∃ fn, Try.prog.funcs[101]? = some fn ∧ cF Try.prog fn = some c101 := ⟨Try.f101, by kernel_rfl, by kernel_rfl⟩
theorem has102 : ∃ fn, Try.prog.funcs[102]? = some fn ∧ cF Try.prog fn = some c102 := ⟨Try.f102, by kernel_rfl, by kernel_rfl⟩
theorem has103 : ∃ fn, Try.prog.funcs[103]? = some fn ∧ cF Try.prog fn = some c103 := ⟨Try.f103, by kernel_rfl, by kernel_rfl⟩
theorem has104 : ∃ fn, Try.prog.funcs[104]? = some fn ∧ cF Try.prog fn = some c104 := ⟨Try.f104, by kernel_rfl, by kernel_rfl⟩
theorem has105 : ∃ fn, Try.prog.funcs[105]? = some fn ∧ cF Try.prog fn = some c105 := ⟨Try.f105, by kernel_rfl, by kernel_rfl⟩
theorem has106 : ∃ fn, Try.prog.funcs[106]? = some fn ∧ cF Try.prog fn = some c106 := ⟨Try.f106, by kernel_rfl, by kernel_rfl⟩
theorem has107 : ∃ fn, Try.prog.funcs[107]? = some fn ∧ cF Try.prog fn = some c107 := ⟨Try.f107, by kernel_rfl, by kernel_rfl⟩
theorem has108 : ∃ fn, Try.prog.funcs[108]? = some fn ∧ cF Try.prog fn = some c108 := ⟨Try.f108, by kernel_rfl, by kernel_rfl⟩
theorem has109 : ∃ fn, Try.prog.funcs[109]? = some fn ∧ cF Try.prog fn = some c109 := ⟨Try.f109, by kernel_rfl, by kernel_rfl⟩
theorem has110 : ∃ fn, Try.prog.funcs[110]? = some fn ∧ cF Try.prog fn = some c110 := ⟨Try.f110, by kernel_rfl, by kernel_rfl⟩
theorem has111 : ∃ fn, Try.prog.funcs[111]? = some fn ∧ cF Try.prog fn = some c111 := ⟨Try.f111, by kernel_rfl, by kernel_rfl⟩
theorem has112 : ∃ fn, Try.prog.funcs[112]? = some fn ∧ cF Try.prog fn = some c112 := ⟨Try.f112, by kernel_rfl, by kernel_rfl⟩
theorem has113 : ∃ fn, Try.prog.funcs[113]? = some fn ∧ cF Try.prog fn = some c113 := ⟨Try.f113, by kernel_rfl, by kernel_rfl⟩
theorem has114 : ∃ fn, Try.prog.funcs[114]? = some fn ∧ cF Try.prog fn = some c114 := ⟨Try.f114, by kernel_rfl, by kernel_rfl⟩
theorem has115 : ∃ fn, Try.prog.funcs[115]? = some fn ∧ cF Try.prog fn = some c115 := ⟨Try.f115, by kernel_rfl, by kernel_rfl⟩
theorem has116 : ∃ fn, Try.prog.funcs[116]? = some fn ∧ cF Try.prog fn = some c116 := ⟨Try.f116, by kernel_rfl, by kernel_rfl⟩
theorem has117 : ∃ fn, Try.prog.funcs[117]? = some fn ∧ cF Try.prog fn = some c117 := ⟨Try.f117, by kernel_rfl, by kernel_rfl⟩
theorem has118 : ∃ fn, Try.prog.funcs[118]? = some fn ∧ cF Try.prog fn = some c118 := ⟨Try.f118, by kernel_rfl, by kernel_rfl⟩
theorem has119 : ∃ fn, Try.prog.funcs[119]? = some fn ∧ cF Try.prog fn = some c119 := ⟨Try.f119, by kernel_rfl, by kernel_rfl⟩
theorem has120 : ∃ fn, Try.prog.funcs[120]? = some fn ∧ cF Try.prog fn = some c120 := ⟨Try.f120, by kernel_rfl, by kernel_rfl⟩
theorem has121 : ∃ fn, Try.prog.funcs[121]? = some fn ∧ cF Try.prog fn = some c121 := ⟨Try.f121, by kernel_rfl, by kernel_rfl⟩
theorem has122 : ∃ fn, Try.prog.funcs[122]? = some fn ∧ cF Try.prog fn = some c122 := ⟨Try.f122, by kernel_rfl, by kernel_rfl⟩
theorem has123 : ∃ fn, Try.prog.funcs[123]? = some fn ∧ cF Try.prog fn = some c123 := ⟨Try.f123, by kernel_rfl, by kernel_rfl⟩
theorem has124 : ∃ fn, Try.prog.funcs[124]? = some fn ∧ cF Try.prog fn = some c124 := ⟨Try.f124, by kernel_rfl, by kernel_rfl⟩

end Go.Abs

/-
  What is proved here: the closed law 'parsed' of this program is true.
  No conditions.
-/
import Derived.Test.YtecpopiacpckiaaTable
import Derived.Test.YtecpopiacpckiaaGlue
namespace Go.Abs
open Go.Proofs

theorem prim_clone : SoundC Try.prog (primC [78, 79]) := primC_sound env fun f hf => by
  simp only [List.mem_cons, List.not_mem_nil, or_false] at hf
  rcases hf with rfl | rfl
  · exact ⟨_, _, _, rfl⟩
  · exact ⟨_, _, _, rfl⟩

theorem parsed_reckoned : isTrue (fastF (primC [78, 79]) table.find 100000 13 [] S0) = true := by kernel_rfl

theorem parsed_true : Fun Try.prog 13 [] S0 (.bool true) S0 := isTrue_fun (callF_sound prim_clone env 100000) (by rw [← fastF_eq]; exact parsed_reckoned)

/-- The calls that are known ahead. -/
noncomputable def known : CallT := primT [13] (primC [78, 79])

theorem known_sound : SoundC Try.prog known := primT_sound prim_clone fun f hf => by
  simp only [List.mem_cons, List.not_mem_nil, or_false] at hf
  subst hf
  exact parsed_true

end Go.Abs

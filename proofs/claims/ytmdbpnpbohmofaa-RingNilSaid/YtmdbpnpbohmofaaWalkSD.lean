/- Walked: Clear of no ring. -/
import Derived.Test.YtmdbpnpbohmofaaWalkSA
namespace Go.Proofs.Ytmdbpnpbohmofaa
open Go.RowKit M Go.Conc
set_option linter.unusedVariables false
theorem clearS_nil (w : World) : Calls Try.prog 17 #[.pointer none] w fun e w' => e = .returned (.tuple #[]) ∧ w = w' := by
  go_enter Try.func17, Try.ntmps17
  go_wp2_with fail
  refine wp_loop_rounds 1 ?_
  rw [rounds_succ]
  go_wp2_with (go_at_call 21; (with_reducible refine (lenS_nil _).mono ?_); rintro e w' ⟨rfl, rfl⟩)
  go_end0
  exact ⟨rfl, rfl⟩
end Go.Proofs.Ytmdbpnpbohmofaa

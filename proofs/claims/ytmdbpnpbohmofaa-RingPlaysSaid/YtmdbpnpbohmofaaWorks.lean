/- Walked: works. -/
import Derived.Test.YtmdbpnpbohmofaaWalkIB
import Derived.Test.YtmdbpnpbohmofaaWalkIC
namespace Go.Proofs.Ytmdbpnpbohmofaa
open Go.RowKit M Go.Conc
set_option linter.unusedVariables false
set_option maxHeartbeats 2000000 in
theorem works_any (w : World) : Calls Try.prog 16 #[] w fun e w' => e = .returned (.bool true) ∧ Below w.heap.size w w' := by
  obtain ⟨b, hb⟩ : ∃ b, w.heap.size + 1 = b := ⟨_, rfl⟩
  have CN := newI 2 2 rfl w (by decide) (by decide)
  rw [hb] at CN
  have CN := Lib.hid CN
  clear hb
  go_enter Try.func16, Try.ntmps16
  go_wp2_with fail
  (go_at_call 35; (with_reducible refine CN.out.mono ?_); rintro e w1 ⟨rfl, HH⟩)
  clear CN
  go_wp2_with fail
  (go_at_call 36; (with_reducible refine (pushI HH.out (by decide) 7).mono ?_); clear HH; rintro e w2 ⟨rfl, HH⟩)
  go_wp2_with fail
  (go_at_call 36; (with_reducible refine (pushI HH.out (by decide) 8).mono ?_); clear HH; rintro e w3 ⟨rfl, HH⟩)
  go_wp2_with fail
  (go_at_call 36; (with_reducible refine (pushI_no HH.out (by decide) 9).mono ?_); rintro e w' ⟨rfl, rfl⟩)
  have H2 : Hid (Holds 89 3 w w3 b 2 [.int .i64 7, .int .i64 8]) := HH
  clear HH
  go_wp2_with fail
  (go_at_call 37; (with_reducible refine (popI H2.out).mono ?_); clear H2; rintro e w4 ⟨rfl, HH⟩)
  go_wp2_with fail
  (go_at_call 38; (with_reducible refine (atI HH.out 0 0 rfl 8 rfl).mono ?_); clear HH; rintro e w5 ⟨rfl, HH⟩)
  go_wp2_with fail
  (go_at_call 39; (with_reducible refine (lenI HH.out 1 rfl).mono ?_); rintro e w' ⟨rfl, rfl⟩)
  go_wp2_with fail
  (go_at_call 40; (with_reducible refine (roomI HH.out 1 rfl).mono ?_); clear HH; rintro e w6 ⟨rfl, HH⟩)
  go_wp2_with fail
  go_ret
  exact ⟨rfl, HH.out.below⟩
end Go.Proofs.Ytmdbpnpbohmofaa

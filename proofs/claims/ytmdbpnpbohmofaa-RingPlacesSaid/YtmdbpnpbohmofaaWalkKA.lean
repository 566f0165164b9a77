/- Walked: New, Len and Room of a ring of pairs (api.Skip). -/
import Derived.Test.YtmdbpnpbohmofaaProg
import Derived.Test.YtmdbpnpbohmofaaWalkUA
import Derived.Test.YtmdbpnpbohmofaaCom
import Derived.Test.YtmdbpnpbohmofaaBase
import Derived.Deep.QuietTactic
import Derived.BigQuiet
import Derived.Handy
import Derived.StillTailTactics
import Derived.Deep.RegionLaw
import Derived.IntWalk
namespace Go.Proofs.Ytmdbpnpbohmofaa
open Go.RowKit M Go.Conc
set_option linter.unusedVariables false
theorem info48 : (Try.prog.info? 48).map (fun i => (i.zero, i.size, i.bytes)) = some (some (.agg #[.int .u16 0, .int .u16 0]), 2, 4) := by kernel_rfl
theorem mkK (n : Nat) (w : World) (h : (n : Int) ≤ 1048576) : (Instr.makeChan 70 (.int .i64 n)).run Try.prog w = .ok (.chan (some w.heap.size)) (w.alloc (.chan n #[] false 0 0 false)) := by
  obtain ⟨i, hi, hz0, hz1, hz2⟩ := info_parts info73
  exact run_makeChan Try.underlying70 hi .i64 n (by omega) (by rw [hz2]; omega)
theorem newK_good (n : Nat) (w : World) (h : 1 ≤ (n : Int)) (h' : (n : Int) ≤ 1048576) :
    Calls Try.prog 23 #[.int .i64 n] w fun e w' => e = .returned (.tuple #[.pointer (some ⟨w.heap.size + 1, 0, none⟩), .int .i64 0]) ∧ Hid (∃ F', Turn w w' (fun _ => False) F' ∧ Ring 83 48 2 w' F' (w.heap.size + 1) n 0 []) := by
  have hmk := mkK n w h'
  have HM := Lib.hid (made (T := 83) (E := 48) 2 n w (by omega))
  have h1 : ¬ (n : Int) < 1 := by omega
  have h2 : ¬ 1048576 < (n : Int) := by omega
  go_enter Try.func23, Try.ntmps23
  go_wp2
  go_ret2
  exact ⟨rfl, HM⟩
theorem newK_bad (n : Int) (w : World) (h : ¬ (1 ≤ n ∧ n ≤ 1048576)) :
    Calls Try.prog 23 #[.int .i64 n] w fun e w' => e = .returned (.tuple #[.pointer none, .int .i64 1]) ∧ w = w' := by
  have h' : n < 1 ∨ (¬ n < 1 ∧ 1048576 < n) := by omega
  clear h
  rcases h' with h | ⟨h, h2⟩
  all_goals
    go_enter Try.func23, Try.ntmps23
    go_wp2
    go_ret2
    exact ⟨rfl, rfl⟩
theorem lenK_any {w : World} {F : Nat → Prop} {b n m : Nat} {xs : List Value} (h : Ring 83 48 2 w F b n m xs) :
    Calls Try.prog 26 #[.pointer (some ⟨b, 0, none⟩)] w fun e w' => e = .returned (.int .i64 m) ∧ w = w' := by
  obtain ⟨c, f, s, r, v, buf, pre, h1, h2, h3, h4, h5, h6, h7, h8, h9, h10, h11, h12, h13⟩ := h
  have hc0 : w.cell? ⟨b, 0, none⟩ = some (.chan (some c)) := cell_at h1 0
  have hL : (Builtin.len_ #[70] 3 #[Value.chan (some c)]).run Try.prog w = .ok (goInt m) w := len_at 70 3 Try.underlying70 h2 h3 0
  clear h1 h2 h3 h4 h5 h6 h7 h8 h9 h10 h11 h12 h13
  go_enter Try.func26, Try.ntmps26
  go_wp2
  go_ret
  exact ⟨rfl, rfl⟩
theorem lenK_nil (w : World) : Calls Try.prog 26 #[.pointer none] w fun e w' => e = .returned (.int .i64 0) ∧ w = w' := by
  go_enter Try.func26, Try.ntmps26
  go_wp2
  go_ret
  exact ⟨rfl, rfl⟩
end Go.Proofs.Ytmdbpnpbohmofaa

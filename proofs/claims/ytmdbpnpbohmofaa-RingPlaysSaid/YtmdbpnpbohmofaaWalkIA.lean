/- Walked: New, Len and Room of a ring of numbers (int). -/
import Derived.Test.YtmdbpnpbohmofaaProg
import Derived.Test.YtmdbpnpbohmofaaWalkUA
import Derived.Test.YtmdbpnpbohmofaaCom
import Derived.Test.YtmdbpnpbohmofaaBase
import Derived.Deep.QuietTactic
import Derived.BigQuiet
import Derived.Handy
import Derived.StillTailTactics
import Derived.Deep.RegionLaw
import Derived.IntWalk
namespace Go.Proofs.Ytmdbpnpbohmofaa
open Go.RowKit M Go.Conc
set_option linter.unusedVariables false
theorem info3 : (Try.prog.info? 3).map (fun i => (i.zero, i.size, i.bytes)) = some (some (.int .i64 0), 1, 8) := by kernel_rfl
theorem mkI (n : Nat) (w : World) (h : (n : Int) ≤ 1048576) : (Instr.makeChan 70 (.int .i64 n)).run Try.prog w = .ok (.chan (some w.heap.size)) (w.alloc (.chan n #[] false 0 0 false)) := by
  obtain ⟨i, hi, hz0, hz1, hz2⟩ := info_parts info73
  exact run_makeChan Try.underlying70 hi .i64 n (by omega) (by rw [hz2]; omega)
theorem newI_good (n : Nat) (w : World) (h : 1 ≤ (n : Int)) (h' : (n : Int) ≤ 1048576) :
    Calls Try.prog 35 #[.int .i64 n] w fun e w' => e = .returned (.tuple #[.pointer (some ⟨w.heap.size + 1, 0, none⟩), .int .i64 0]) ∧ Hid (∃ F', Turn w w' (fun _ => False) F' ∧ Ring 89 3 1 w' F' (w.heap.size + 1) n 0 []) := by
  have hmk := mkI n w h'
  have HM := Lib.hid (made (T := 89) (E := 3) 1 n w (by omega))
  have h1 : ¬ (n : Int) < 1 := by omega
  have h2 : ¬ 1048576 < (n : Int) := by omega
  go_enter Try.func35, Try.ntmps35
  go_wp2
  go_ret2
  exact ⟨rfl, HM⟩
theorem newI_bad (n : Int) (w : World) (h : ¬ (1 ≤ n ∧ n ≤ 1048576)) :
    Calls Try.prog 35 #[.int .i64 n] w fun e w' => e = .returned (.tuple #[.pointer none, .int .i64 1]) ∧ w = w' := by
  have h' : n < 1 ∨ (¬ n < 1 ∧ 1048576 < n) := by omega
  clear h
  rcases h' with h | ⟨h, h2⟩
  all_goals
    go_enter Try.func35, Try.ntmps35
    go_wp2
    go_ret2
    exact ⟨rfl, rfl⟩
theorem newI (n : Nat) (i : Int) (hi : i = n) (w : World) (h : 1 ≤ (n : Int)) (h' : (n : Int) ≤ 1048576) :
    Calls Try.prog 35 #[.int .i64 i] w fun e w' => e = .returned (.tuple #[.pointer (some ⟨w.heap.size + 1, 0, none⟩), .int .i64 0]) ∧ Hid (Holds 89 3 w w' (w.heap.size + 1) n []) :=
  hi ▸ (newI_good n w h h').mono fun _ _ ⟨he, hh⟩ => ⟨he, by
    obtain ⟨F', t, q⟩ := hh.out
    exact ⟨F', t.below (fun _ h => h.elim) (Nat.le_refl _), fun k hk => (t.foot k hk).elim (fun h => h.elim) id, (fun _ h => by simp at h), q⟩⟩
theorem lenI_any {w : World} {F : Nat → Prop} {b n m : Nat} {xs : List Value} (h : Ring 89 3 1 w F b n m xs) :
    Calls Try.prog 39 #[.pointer (some ⟨b, 0, none⟩)] w fun e w' => e = .returned (.int .i64 m) ∧ w = w' := by
  obtain ⟨c, f, s, r, v, buf, pre, h1, h2, h3, h4, h5, h6, h7, h8, h9, h10, h11, h12, h13⟩ := h
  have hc0 : w.cell? ⟨b, 0, none⟩ = some (.chan (some c)) := cell_at h1 0
  have hL : (Builtin.len_ #[70] 3 #[Value.chan (some c)]).run Try.prog w = .ok (goInt m) w := len_at 70 3 Try.underlying70 h2 h3 0
  clear h1 h2 h3 h4 h5 h6 h7 h8 h9 h10 h11 h12 h13
  go_enter Try.func39, Try.ntmps39
  go_wp2
  go_ret
  exact ⟨rfl, rfl⟩
theorem lenI_nil (w : World) : Calls Try.prog 39 #[.pointer none] w fun e w' => e = .returned (.int .i64 0) ∧ w = w' := by
  go_enter Try.func39, Try.ntmps39
  go_wp2
  go_ret
  exact ⟨rfl, rfl⟩
theorem lenI {w0 w : World} {b n : Nat} {xs : List Value} (h : Holds 89 3 w0 w b n xs) (m : Int) (hm : m = xs.length) :
    Calls Try.prog 39 #[.pointer (some ⟨b, 0, none⟩)] w fun e w' => e = .returned (.int .i64 m) ∧ w = w' := let ⟨_, q⟩ := h; hm ▸ lenI_any q.2.2.2
theorem roomI_any {w : World} {F : Nat → Prop} {b n m : Nat} {xs : List Value} (h : Ring 89 3 1 w F b n m xs) :
    Calls Try.prog 40 #[.pointer (some ⟨b, 0, none⟩)] w fun e w' => e = .returned (.int .i64 ((n : Int) - m)) ∧ ∃ k, w' = w.drewN k := by
  obtain ⟨c, f, s, r, v, buf, pre, h1, h2, h3, h4, h5, h6, h7, h8, h9, h10, h11, h12, h13⟩ := h
  have hc0 : w.cell? ⟨b, 0, none⟩ = some (.chan (some c)) := cell_at h1 0
  have hL := len_at (P := Try.prog) 70 3 Try.underlying70 h2 h3
  have hC := cap_at (P := Try.prog) 70 3 Try.underlying70 h2
  have hb1 : (m : Int) ≤ n := by omega
  have hb2 : (n : Int) ≤ 1048576 := by omega
  clear h1 h2 h3 h4 h5 h6 h7 h8 h9 h10 h11 h12 h13
  go_enter Try.func40, Try.ntmps40
  go_wp2
  go_quiet (fail)
  go_wp2
  go_ret
  exact ⟨rfl, _, rfl⟩
theorem roomI_nil (w : World) : Calls Try.prog 40 #[.pointer none] w fun e w' => e = .returned (.int .i64 0) ∧ w = w' := by
  go_enter Try.func40, Try.ntmps40
  go_wp2
  go_ret
  exact ⟨rfl, rfl⟩
theorem roomI {w0 w : World} {b n : Nat} {xs : List Value} (h : Holds 89 3 w0 w b n xs) (m : Int) (hm : m = (n : Int) - xs.length) :
    Calls Try.prog 40 #[.pointer (some ⟨b, 0, none⟩)] w fun e w' => e = .returned (.int .i64 m) ∧ Hid (Holds 89 3 w0 w' b n xs) :=
  (roomI_any h.choose_spec.2.2.2).mono fun _ _ ⟨he, k, hk⟩ => ⟨by rw [he, hm], by subst hk; exact Lib.hid (h.drewN k)⟩
end Go.Proofs.Ytmdbpnpbohmofaa

/- Walked: a delay's New, Packet and Sent, the program's own; and Due, with its three reasons. -/
import Derived.Test.YtjemamdldeeebaaProg
import Derived.Test.YtjemamdldeeebaaBase
import Derived.Deep.QuietTactic
import Derived.BigQuiet
import Derived.Handy
namespace Go.Proofs.Ytjemamdldeeebaa
open Go.RowKit M
set_option linter.unusedVariables false
attribute [local go_sem] max_i64 min_i64

theorem new_good (t : Int) (w : World) (h : 0 ≤ t) (h' : t ≤ 1048576) :
    Calls Try.prog 10 #[.int .i64 t] w fun e w' => e = .returned (.tuple #[.pointer (some ⟨w.heap.size, 0, none⟩), .int .i64 0]) ∧ Hid (w' = w.alloc (.cells (made t).cells 45)) := by
  go_enter Try.func10, Try.ntmps10
  go_wp2
  go_ret2
  exact ⟨rfl, Lib.hid rfl⟩
theorem new_bad (t : Int) (w : World) (h : ¬ (0 ≤ t ∧ t ≤ 1048576)) :
    Calls Try.prog 10 #[.int .i64 t] w fun e w' => e = .returned (.tuple #[.pointer none, .int .i64 1]) ∧ w = w' := by
  have h' : t < 0 ∨ (¬ t < 0 ∧ 1048576 < t) := by omega
  clear h
  rcases h' with h | ⟨h, h2⟩
  all_goals
    go_enter Try.func10, Try.ntmps10
    go_wp2
    go_ret2
    exact ⟨rfl, rfl⟩
theorem sent_any (b : Nat) (r : R) (w : World) (h : Held 45 w b r) :
    Calls Try.prog 14 #[.pointer (some ⟨b, 0, none⟩)] w fun e w' => e = .returned (.tuple #[]) ∧ Hid (Held 45 w' b r.sent ∧ w.grownBy w' (some b)) := by
  obtain ⟨t, n, f, u⟩ := r
  have h1 : w.cell? ⟨b, 1, none⟩ = some (.int .i64 n) := h.cell 1
  have h3 : w.cell? ⟨b, 3, none⟩ = some (.bool u) := h.cell 3
  have hf1 : w.frozen? ⟨b, 1, none⟩ = false := h.free 1
  have hf3 : w.frozen? ⟨b, 3, none⟩ = false := h.free 3
  have HH := Lib.hid h
  clear h
  go_enter Try.func14, Try.ntmps14
  go_wp2
  go_end0
  exact ⟨rfl, (HH.out.set 1 _ ⟨t, 0, f, u⟩ rfl).set 3 _ ⟨t, 0, f, false⟩ rfl, grown_trans grown_set grown_set⟩
theorem sent_nil (w : World) : Calls Try.prog 14 #[.pointer none] w fun e w' => e = .returned (.tuple #[]) ∧ w = w' := by
  go_enter Try.func14, Try.ntmps14
  go_wp2
  go_end0
  exact ⟨rfl, rfl⟩
theorem packet_nil (now : Int) (u : Bool) (w : World) : Calls Try.prog 12 #[.pointer none, .int .i64 now, .bool u] w fun e w' => e = .returned (.tuple #[]) ∧ w = w' := by
  go_enter Try.func12, Try.ntmps12
  go_wp2
  refine bodyPost_ret (results_none rfl _ _ _) rfl ?_
  exact ⟨rfl, rfl⟩
theorem packet_any (b : Nat) (r : R) (now : Int) (v : Bool) (w : World) (h : Held 45 w b r) (ho : r.Ok) :
    Calls Try.prog 12 #[.pointer (some ⟨b, 0, none⟩), .int .i64 now, .bool v] w fun e w' => e = .returned (.tuple #[]) ∧ Hid (Held 45 w' b (r.packet now v) ∧ w.grownBy w' (some b)) := by
  obtain ⟨t, n, f, u⟩ := r
  have h1 : w.cell? ⟨b, 1, none⟩ = some (.int .i64 n) := h.cell 1
  have h2 : w.cell? ⟨b, 2, none⟩ = some (.int .i64 f) := h.cell 2
  have h3 : w.cell? ⟨b, 3, none⟩ = some (.bool u) := h.cell 3
  have hf1 : w.frozen? ⟨b, 1, none⟩ = false := h.free 1
  have hf2 : w.frozen? ⟨b, 2, none⟩ = false := h.free 2
  have hf3 : w.frozen? ⟨b, 3, none⟩ = false := h.free 3
  have hn : 0 ≤ n ∧ n ≤ 2 := by obtain ⟨_, _, _, _, _, _⟩ := ho; simp only at *; omega
  have HH := Lib.hid h
  clear h ho
  by_cases h0 : n = 0
  · subst h0
    cases u
    all_goals
      go_enter Try.func12, Try.ntmps12
      go_wp2
      go_end0
      refine ⟨rfl, ?_, grown_trans (grown_trans grown_set grown_set) grown_set⟩
      exact ((HH.out.set 2 _ ⟨t, 0, clip now, _⟩ rfl).set 1 _ ⟨t, mn (0 + 1) 2, clip now, _⟩ rfl).set 3 _ ⟨t, mn (0 + 1) 2, clip now, _⟩ rfl
  · have e : (R.mk t n f u).packet now v = ⟨t, mn (n + 1) 2, f, u || v⟩ := by simp [R.packet, h0]
    have HE := Lib.hid e
    clear e
    have h0' : (n == 0) = false := by simpa using h0
    clear h0
    cases u
    all_goals
      go_enter Try.func12, Try.ntmps12
      go_wp2
      go_end0
      refine ⟨rfl, ?_, grown_trans grown_set grown_set⟩
      rw [HE.out]
      exact (HH.out.set 1 _ ⟨t, mn (n + 1) 2, f, _⟩ rfl).set 3 _ ⟨t, mn (n + 1) 2, f, _⟩ rfl
end Go.Proofs.Ytjemamdldeeebaa

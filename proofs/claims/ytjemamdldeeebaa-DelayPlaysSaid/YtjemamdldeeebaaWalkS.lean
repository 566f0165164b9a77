/- Walked: the reference's delay: Due and Packet. -/
import Derived.Test.YtjemamdldeeebaaWalkR
namespace Go.Proofs.Ytjemamdldeeebaa
open Go.RowKit M
set_option linter.unusedVariables false
attribute [local go_sem] max_i64 min_i64

set_option maxHeartbeats 2000000 in
theorem refDue_any (b : Nat) (r : R) (now : Int) (w : World) (h : Held 47 w b r) (ho : r.Ok) :
    Calls Try.prog 19 #[.pointer (some ⟨b, 0, none⟩), .int .i64 now] w fun e w' => e = .returned (.bool (r.due now)) ∧ ∃ k, w' = w.drewN k := by
  obtain ⟨t, n, f, u⟩ := r
  have h0 : w.cell? ⟨b, 0, none⟩ = some (.int .i64 t) := h.cell 0
  have h1 : w.cell? ⟨b, 1, none⟩ = some (.int .i64 n) := h.cell 1
  have h2 : w.cell? ⟨b, 2, none⟩ = some (.int .i64 f) := h.cell 2
  have h3 : w.cell? ⟨b, 3, none⟩ = some (.bool u) := h.cell 3
  obtain ⟨a1, a2, a3, a4, a5, a6⟩ := ho
  simp only at a1 a2 a3 a4 a5 a6
  clear h
  obtain ⟨d, hd⟩ : ∃ d, (R.mk t n f u).due now = d := ⟨_, rfl⟩
  rw [hd]
  have hcs : (n = 0 ∧ d = false) ∨ (decide (0 < n) = true ∧ ((u = true ∧ d = true) ∨ (u = false ∧ ((decide (1 < n) = true ∧ d = true) ∨ (decide (1 < n) = false ∧ decide (f + t ≤ now) = d))))) := by
    by_cases hn : n = 0
    · left; refine ⟨hn, ?_⟩; rw [← hd]; simp [R.due, hn]
    · right
      refine ⟨by simp; omega, ?_⟩
      cases u
      · right; refine ⟨rfl, ?_⟩
        by_cases h1 : 1 < n
        · left; exact ⟨by simpa using h1, by rw [← hd]; simp [R.due, hn, h1]⟩
        · right; exact ⟨by simpa using h1, by rw [← hd]; simp [R.due, hn, h1]⟩
      · left; refine ⟨rfl, ?_⟩; rw [← hd]; simp [R.due, hn]
  clear hd
  rcases hcs with ⟨rfl, rfl⟩ | ⟨hn, ⟨rfl, rfl⟩ | ⟨rfl, ⟨hq, rfl⟩ | ⟨hq, hd⟩⟩⟩
  · go_enter Try.func19, Try.ntmps19
    go_wp2
    go_quiet (fail)
    go_wp2
    go_ret
    exact ⟨rfl, _, rfl⟩
  · go_enter Try.func19, Try.ntmps19
    go_wp2
    go_quiet (fail)
    go_wp2
    go_ret
    exact ⟨rfl, _, rfl⟩
  · go_enter Try.func19, Try.ntmps19
    go_wp2
    go_quiet (fail)
    go_wp2
    go_ret
    exact ⟨rfl, _, rfl⟩
  · cases d
    all_goals
      go_enter Try.func19, Try.ntmps19
      go_wp2
      go_quiet (fail)
      go_wp2
      go_ret
      exact ⟨rfl, _, rfl⟩
end Go.Proofs.Ytjemamdldeeebaa

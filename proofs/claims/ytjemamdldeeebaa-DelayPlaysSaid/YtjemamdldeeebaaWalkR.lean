/- Walked: the reference's delay: New, Packet, Sent, When and Due. -/
import Derived.Test.YtjemamdldeeebaaWalkB
namespace Go.Proofs.Ytjemamdldeeebaa
open Go.RowKit M
set_option linter.unusedVariables false
attribute [local go_sem] max_i64 min_i64

theorem refNew_good (t : Int) (w : World) (h : 0 ≤ t) (h' : t ≤ 1048576) :
    Calls Try.prog 11 #[.int .i64 t] w fun e w' => e = .returned (.tuple #[.pointer (some ⟨w.heap.size, 0, none⟩), .int .i64 0]) ∧ Hid (w' = w.alloc (.cells (made t).cells 47)) := by
  go_enter Try.func11, Try.ntmps11
  go_wp2
  go_ret2
  exact ⟨rfl, Lib.hid rfl⟩
theorem refNew_bad (t : Int) (w : World) (h : ¬ (0 ≤ t ∧ t ≤ 1048576)) :
    Calls Try.prog 11 #[.int .i64 t] w fun e w' => e = .returned (.tuple #[.pointer none, .int .i64 1]) ∧ w = w' := by
  have h' : t < 0 ∨ (¬ t < 0 ∧ 1048576 < t) := by omega
  clear h
  rcases h' with h | ⟨h, h2⟩
  all_goals
    go_enter Try.func11, Try.ntmps11
    go_wp2
    go_ret2
    exact ⟨rfl, rfl⟩
theorem refSent_any (b : Nat) (r : R) (w : World) (h : Held 47 w b r) :
    Calls Try.prog 15 #[.pointer (some ⟨b, 0, none⟩)] w fun e w' => e = .returned (.tuple #[]) ∧ Hid (Held 47 w' b r.sent ∧ w.grownBy w' (some b)) := by
  obtain ⟨t, n, f, u⟩ := r
  have h1 : w.cell? ⟨b, 1, none⟩ = some (.int .i64 n) := h.cell 1
  have h3 : w.cell? ⟨b, 3, none⟩ = some (.bool u) := h.cell 3
  have hf1 : w.frozen? ⟨b, 1, none⟩ = false := h.free 1
  have hf3 : w.frozen? ⟨b, 3, none⟩ = false := h.free 3
  have HH := Lib.hid h
  clear h
  go_enter Try.func15, Try.ntmps15
  go_wp2
  go_end0
  exact ⟨rfl, (HH.out.set 1 _ ⟨t, 0, f, u⟩ rfl).set 3 _ ⟨t, 0, f, false⟩ rfl, grown_trans grown_set grown_set⟩
theorem refSent_nil (w : World) : Calls Try.prog 15 #[.pointer none] w fun e w' => e = .returned (.tuple #[]) ∧ w = w' := by
  go_enter Try.func15, Try.ntmps15
  go_wp2
  go_end0
  exact ⟨rfl, rfl⟩
theorem refPacket_nil (now : Int) (u : Bool) (w : World) : Calls Try.prog 13 #[.pointer none, .int .i64 now, .bool u] w fun e w' => e = .returned (.tuple #[]) ∧ w = w' := by
  go_enter Try.func13, Try.ntmps13
  go_wp2
  refine bodyPost_ret (results_none rfl _ _ _) rfl ?_
  exact ⟨rfl, rfl⟩
theorem refWhen_nil (w : World) : Calls Try.prog 17 #[.pointer none] w fun e w' => e = .returned (.tuple #[.int .i64 0, .bool false]) ∧ w = w' := by
  go_enter Try.func17, Try.ntmps17
  go_wp2
  go_ret2
  exact ⟨rfl, rfl⟩
theorem refDue_nil (now : Int) (w : World) : Calls Try.prog 19 #[.pointer none, .int .i64 now] w fun e w' => e = .returned (.bool false) ∧ ∃ k, w' = w.drewN k := by
  go_enter Try.func19, Try.ntmps19
  go_wp2
  go_quiet (fail)
  go_wp2
  go_ret
  exact ⟨rfl, _, rfl⟩
theorem refWhen_any (b : Nat) (r : R) (w : World) (h : Held 47 w b r) (ho : r.Ok) :
    Calls Try.prog 17 #[.pointer (some ⟨b, 0, none⟩)] w fun e w' => e = .returned (.tuple #[.int .i64 r.when, .bool r.some]) ∧ ∃ k, w' = w.drewN k := by
  obtain ⟨t, n, f, u⟩ := r
  have h0 : w.cell? ⟨b, 0, none⟩ = some (.int .i64 t) := h.cell 0
  have h1 : w.cell? ⟨b, 1, none⟩ = some (.int .i64 n) := h.cell 1
  have h2 : w.cell? ⟨b, 2, none⟩ = some (.int .i64 f) := h.cell 2
  have h3 : w.cell? ⟨b, 3, none⟩ = some (.bool u) := h.cell 3
  obtain ⟨a1, a2, a3, a4, a5, a6⟩ := ho
  simp only at a1 a2 a3 a4 a5 a6
  clear h
  by_cases hn : n = 0
  · subst hn
    go_enter Try.func17, Try.ntmps17
    go_wp2
    go_ret2
    exact ⟨rfl, 0, rfl⟩
  · have hn' : (n == 0) = false := by simpa using hn
    have hs : (R.mk t n f u).some = true := by simp [R.some, hn]
    by_cases hu : (u || decide (1 < n)) = true
    · have hw : (R.mk t n f u).when = f := by simp [R.when, hn, hu]
      rw [hs, hw]
      have hd : u = true ∨ (u = false ∧ decide (1 < n) = true) := by cases u <;> simp_all
      clear hs hw hu hn
      rcases hd with rfl | ⟨rfl, hd⟩
      all_goals
        go_enter Try.func17, Try.ntmps17
        go_wp2
        go_ret2
        exact ⟨rfl, 0, rfl⟩
    · have hw : (R.mk t n f u).when = f + t := by simp [R.when, hn, hu]
      rw [hs, hw]
      have hd : u = false ∧ decide (1 < n) = false := by cases u <;> simp_all
      obtain ⟨rfl, hd⟩ := hd
      clear hs hw hu hn
      go_enter Try.func17, Try.ntmps17
      go_wp2
      go_quiet (fail)
      go_wp2
      go_ret2
      exact ⟨rfl, _, rfl⟩
end Go.Proofs.Ytjemamdldeeebaa

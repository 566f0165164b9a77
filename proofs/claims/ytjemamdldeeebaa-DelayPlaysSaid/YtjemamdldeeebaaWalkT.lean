/- Walked: the reference's delay: Packet. -/
import Derived.Test.YtjemamdldeeebaaWalkR
namespace Go.Proofs.Ytjemamdldeeebaa
open Go.RowKit M
set_option linter.unusedVariables false
attribute [local go_sem] max_i64 min_i64

set_option maxHeartbeats 2000000 in
theorem refPacket_any (b : Nat) (r : R) (now : Int) (v : Bool) (w : World) (h : Held 47 w b r) (ho : r.Ok) :
    Calls Try.prog 13 #[.pointer (some ⟨b, 0, none⟩), .int .i64 now, .bool v] w fun e w' => e = .returned (.tuple #[]) ∧ Hid (Held 47 w' b (r.packet now v) ∧ w.grownBy w' (some b)) := by
  obtain ⟨t, n, f, u⟩ := r
  have h1 : w.cell? ⟨b, 1, none⟩ = some (.int .i64 n) := h.cell 1
  have h2 : w.cell? ⟨b, 2, none⟩ = some (.int .i64 f) := h.cell 2
  have h3 : w.cell? ⟨b, 3, none⟩ = some (.bool u) := h.cell 3
  have hf1 : w.frozen? ⟨b, 1, none⟩ = false := h.free 1
  have hf2 : w.frozen? ⟨b, 2, none⟩ = false := h.free 2
  have hf3 : w.frozen? ⟨b, 3, none⟩ = false := h.free 3
  have hn : 0 ≤ n ∧ n ≤ 2 := by obtain ⟨_, _, _, _, _, _⟩ := ho; simp only at *; omega
  have HH := Lib.hid h
  clear h ho
  by_cases h0 : n = 0
  · subst h0
    cases u
    all_goals
      go_enter Try.func13, Try.ntmps13
      go_wp2
      go_end0
      refine ⟨rfl, ?_, grown_trans (grown_trans grown_set grown_set) grown_set⟩
      exact ((HH.out.set 2 _ ⟨t, 0, clip now, _⟩ rfl).set 1 _ ⟨t, mn (0 + 1) 2, clip now, _⟩ rfl).set 3 _ ⟨t, mn (0 + 1) 2, clip now, _⟩ rfl
  · have e : (R.mk t n f u).packet now v = ⟨t, mn (n + 1) 2, f, u || v⟩ := by simp [R.packet, h0]
    have HE := Lib.hid e
    clear e
    have h0' : (n == 0) = false := by simpa using h0
    clear h0
    cases u
    all_goals
      go_enter Try.func13, Try.ntmps13
      go_wp2
      go_end0
      refine ⟨rfl, ?_, grown_trans grown_set grown_set⟩
      rw [HE.out]
      exact (HH.out.set 1 _ ⟨t, mn (n + 1) 2, f, _⟩ rfl).set 3 _ ⟨t, mn (n + 1) 2, f, _⟩ rfl
end Go.Proofs.Ytjemamdldeeebaa

/- Walked: a delay's Due, with its three reasons. -/
import Derived.Test.YtjemamdldeeebaaWalkA
namespace Go.Proofs.Ytjemamdldeeebaa
open Go.RowKit M
set_option linter.unusedVariables false

theorem due1 (p b : Nat) (u : Bool) (w : World) (hp : w.cell? ⟨p, 0, none⟩ = some (.pointer (some ⟨b, 0, none⟩))) (hu : w.cell? ⟨b, 3, none⟩ = some (.bool u)) :
    Calls Try.prog 20 #[.pointer (some ⟨p, 0, none⟩)] w fun e w' => e = .returned (.bool u) ∧ w = w' := by
  go_enter Try.func20, Try.ntmps20
  go_wp2
  go_ret
  exact ⟨rfl, rfl⟩
theorem due2 (p b : Nat) (n : Int) (w : World) (hp : w.cell? ⟨p, 0, none⟩ = some (.pointer (some ⟨b, 0, none⟩))) (hu : w.cell? ⟨b, 1, none⟩ = some (.int .i64 n)) :
    Calls Try.prog 21 #[.pointer (some ⟨p, 0, none⟩)] w fun e w' => e = .returned (.bool (decide (1 < n))) ∧ w = w' := by
  go_enter Try.func21, Try.ntmps21
  go_wp2
  go_ret
  exact ⟨rfl, rfl⟩
theorem due3 (q p b : Nat) (now f t : Int) (w : World) (hq : w.cell? ⟨q, 0, none⟩ = some (.int .i64 now)) (hp : w.cell? ⟨p, 0, none⟩ = some (.pointer (some ⟨b, 0, none⟩))) (hf : w.cell? ⟨b, 2, none⟩ = some (.int .i64 f)) (ht : w.cell? ⟨b, 0, none⟩ = some (.int .i64 t))
    (hb : 0 ≤ f ∧ f ≤ 2305843009213693952) (hb' : 0 ≤ t ∧ t ≤ 1048576) :
    Calls Try.prog 22 #[.pointer (some ⟨q, 0, none⟩), .pointer (some ⟨p, 0, none⟩)] w fun e w' => e = .returned (.bool (decide (f + t ≤ now))) ∧ ∃ k, w' = w.drewN k := by
  go_enter Try.func22, Try.ntmps22
  go_wp2
  go_quiet (fail)
  go_wp2
  go_ret
  exact ⟨rfl, _, rfl⟩

theorem due_nil (now : Int) (w : World) : Calls Try.prog 18 #[.pointer none, .int .i64 now] w fun e w' => e = .returned (.bool false) ∧ Below w.heap.size w w' := by
  go_enter Try.func18, Try.ntmps18
  go_wp2
  go_ret
  exact ⟨rfl, ((Below.refl _ _).alloc (Nat.le_refl _) _).alloc (by simp) _⟩

/-- The three blocks that Due makes: what its reasons have captured, and the list of them. -/
def dueFn1 (w : World) : Value := .func (.func 20) #[] #[.pointer (some ⟨w.heap.size, 0, none⟩)]
def dueFn2 (w : World) : Value := .func (.func 21) #[] #[.pointer (some ⟨w.heap.size, 0, none⟩)]
def dueFn3 (w : World) : Value := .func (.func 22) #[] #[.pointer (some ⟨w.heap.size + 1, 0, none⟩), .pointer (some ⟨w.heap.size, 0, none⟩)]
def dueBlocks (w : World) (b : Nat) (now : Int) : World :=
  ((w.alloc (.cells #[.pointer (some ⟨b, 0, none⟩)] 24)).alloc (.cells #[.int .i64 now] 2)).alloc (.cells #[dueFn1 w, dueFn2 w, dueFn3 w] 23)
theorem dueBlocks_heap (w : World) (b : Nat) (now : Int) : (dueBlocks w b now).heap = ((w.heap.push (.cells #[.pointer (some ⟨b, 0, none⟩)] 24)).push (.cells #[.int .i64 now] 2)).push (.cells #[dueFn1 w, dueFn2 w, dueFn3 w] 23) := rfl
theorem dueBlocks_at (w : World) (b : Nat) (now : Int) :
    (dueBlocks w b now).heap[w.heap.size]? = some (.cells #[.pointer (some ⟨b, 0, none⟩)] 24) ∧ (dueBlocks w b now).heap[w.heap.size + 1]? = some (.cells #[.int .i64 now] 2) ∧
    (dueBlocks w b now).heap[w.heap.size + 1 + 1]? = some (.cells #[dueFn1 w, dueFn2 w, dueFn3 w] 23) := by
  rw [dueBlocks_heap]
  refine ⟨?_, ?_, ?_⟩
  · simp only [Array.getElem?_push, Array.size_push]
    rw [if_neg (by omega), if_neg (by omega), if_pos trivial]
  · simp only [Array.getElem?_push, Array.size_push]
    rw [if_neg (by omega), if_pos trivial]
  · simp only [Array.getElem?_push, Array.size_push, if_true]
theorem dueBlocks_below (w : World) (b : Nat) (now : Int) : Below w.heap.size w (dueBlocks w b now) :=
  (((Below.refl _ _).alloc (Nat.le_refl _) _).alloc (by simp) _).alloc (by simp; omega) _

set_option maxHeartbeats 1000000 in
theorem due_any (b : Nat) (r : R) (now : Int) (w : World) (h : Held 45 w b r) (ho : r.Ok) :
    Calls Try.prog 18 #[.pointer (some ⟨b, 0, none⟩), .int .i64 now] w fun e w' => e = .returned (.bool (r.due now)) ∧ Below w.heap.size w w' := by
  obtain ⟨t, n, f, u⟩ := r
  have h0 : w.cell? ⟨b, 0, none⟩ = some (.int .i64 t) := h.cell 0
  have h1 : w.cell? ⟨b, 1, none⟩ = some (.int .i64 n) := h.cell 1
  have h2 : w.cell? ⟨b, 2, none⟩ = some (.int .i64 f) := h.cell 2
  have h3 : w.cell? ⟨b, 3, none⟩ = some (.bool u) := h.cell 3
  have hlt := h.lt
  obtain ⟨a1, a2, a3, a4, a5, a6⟩ := ho
  simp only at a1 a2 a3 a4 a5 a6
  clear h
  by_cases hn : n = 0
  · subst hn
    go_enter Try.func18, Try.ntmps18
    go_wp2
    go_ret
    exact ⟨rfl, ((Below.refl _ _).alloc (Nat.le_refl _) _).alloc (by simp) _⟩
  · have hn' : (n == 0) = false := by simpa using hn
    have HN := Lib.hid hn
    clear hn
    go_enter Try.func18, Try.ntmps18
    go_wp2
    change Code.wp _ _ _ _ (dueBlocks w b now)
    have hat := dueBlocks_at w b now
    have hbl := dueBlocks_below w b now
    generalize dueBlocks w b now = W at hat hbl ⊢
    have e0 : W.cell? ⟨b, 0, none⟩ = some (.int .i64 t) := by rw [hbl.cell (p := ⟨b, _, none⟩) hlt]; exact h0
    have e1 : W.cell? ⟨b, 1, none⟩ = some (.int .i64 n) := by rw [hbl.cell (p := ⟨b, _, none⟩) hlt]; exact h1
    have e2 : W.cell? ⟨b, 2, none⟩ = some (.int .i64 f) := by rw [hbl.cell (p := ⟨b, _, none⟩) hlt]; exact h2
    have e3 : W.cell? ⟨b, 3, none⟩ = some (.bool u) := by rw [hbl.cell (p := ⟨b, _, none⟩) hlt]; exact h3
    have p0 : W.cell? ⟨w.heap.size, 0, none⟩ = some (.pointer (some ⟨b, 0, none⟩)) := by simp [World.cell?, hat.1]
    have q0 : W.cell? ⟨w.heap.size + 1, 0, none⟩ = some (.int .i64 now) := by simp [World.cell?, hat.2.1]
    have s0 : W.cell? ⟨w.heap.size + 1 + 1, 0, none⟩ = some (.func (.func 20) #[] #[.pointer (some ⟨w.heap.size, 0, none⟩)]) := by simp [World.cell?, hat.2.2, dueFn1]
    have s1 : W.cell? ⟨w.heap.size + 1 + 1, 1, none⟩ = some (.func (.func 21) #[] #[.pointer (some ⟨w.heap.size, 0, none⟩)]) := by simp [World.cell?, hat.2.2, dueFn2]
    have s2 : W.cell? ⟨w.heap.size + 1 + 1, 2, none⟩ = some (.func (.func 22) #[] #[.pointer (some ⟨w.heap.size + 1, 0, none⟩), .pointer (some ⟨w.heap.size, 0, none⟩)]) := by simp [World.cell?, hat.2.2, dueFn3]
    have HBL := Lib.hid hbl
    have C1 := Lib.hid (due1 _ b u W p0 e3)
    have C2 := Lib.hid (due2 _ b n W p0 e1)
    have C3 := Lib.hid (due3 _ _ b now f t W q0 p0 e2 e0 ⟨a5, a6⟩ ⟨a1, a2⟩)
    clear h0 h1 h2 h3 hat hbl e0 e1 e2 e3 p0 q0 hn'
    refine wp_loop_rounds 4 ?_
    rw [rounds_succ]
    cases u with
    | true =>
      go_wp2_with (go_at_call 20; (with_reducible refine C1.out.mono ?_); rintro e w' ⟨rfl, rfl⟩)
      go_ret
      refine ⟨?_, HBL.out⟩
      have : n ≠ 0 := HN.out
      simp [R.due, this]
    | false =>
      go_wp2_with (go_at_call 20; (with_reducible refine C1.out.mono ?_); rintro e w' ⟨rfl, rfl⟩)
      rw [rounds_succ]
      by_cases hn1 : 1 < n
      · have hd : decide (1 < n) = true := by simpa using hn1
        rw [hd] at C2
        go_wp2_with (go_at_call 21; (with_reducible refine C2.out.mono ?_); rintro e w' ⟨rfl, rfl⟩)
        go_ret
        refine ⟨?_, HBL.out⟩
        have : n ≠ 0 := HN.out
        simp [R.due, this, hn1]
      · have hd : decide (1 < n) = false := by simpa using hn1
        rw [hd] at C2
        go_wp2_with (go_at_call 21; (with_reducible refine C2.out.mono ?_); rintro e w' ⟨rfl, rfl⟩)
        rw [rounds_succ]
        by_cases hft : f + t ≤ now
        · have hd2 : decide (f + t ≤ now) = true := by simpa using hft
          rw [hd2] at C3
          go_wp2_with (go_at_call 22; (with_reducible refine C3.out.mono ?_); rintro e w' ⟨rfl, m, rfl⟩)
          go_ret
          refine ⟨?_, HBL.out.os, HBL.out.tape, HBL.out.output, HBL.out.size, HBL.out.block⟩
          have : n ≠ 0 := HN.out
          simp [R.due, this, hft]
        · have hd2 : decide (f + t ≤ now) = false := by simpa using hft
          rw [hd2] at C3
          go_wp2_with (go_at_call 22; (with_reducible refine C3.out.mono ?_); rintro e w' ⟨rfl, m, rfl⟩)
          rw [rounds_succ]
          go_wp2
          go_ret
          refine ⟨?_, HBL.out.os, HBL.out.tape, HBL.out.output, HBL.out.size, HBL.out.block⟩
          have : n ≠ 0 := HN.out
          simp [R.due, this, hft, hn1]
end Go.Proofs.Ytjemamdldeeebaa

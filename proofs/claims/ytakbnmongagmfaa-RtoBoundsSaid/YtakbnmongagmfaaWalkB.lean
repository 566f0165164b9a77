/- Walked: an estimator's Sample, the program's own. -/
import Derived.Test.YtakbnmongagmfaaWalkA
import Derived.StillTailTactics
namespace Go.Proofs.Ytakbnmongagmfaa
open Go.RowKit M
set_option linter.unusedVariables false
attribute [local go_sem] max_i64 min_i64

theorem between_still (x l m : Int) (w : World) : Calls Try.prog 20 #[.int .i64 x, .int .i64 l, .int .i64 m] w fun e w' => e = .returned (.int .i64 (btw x l m)) ∧ w' = w :=
  (between_any x l m w).mono fun _ _ ⟨h, h'⟩ => ⟨h, h'.symm⟩
theorem sample_nil (t : Int) (w : World) : Calls Try.prog 14 #[.pointer none, .int .i64 t] w fun e w' => e = .returned (.int .i64 2) ∧ w = w' := by
  go_enter Try.func14, Try.ntmps14
  go_wp2
  go_ret
  exact ⟨rfl, rfl⟩
theorem sample_neg (b : Nat) (t : Int) (w : World) (h : t < 0) : Calls Try.prog 14 #[.pointer (some ⟨b, 0, none⟩), .int .i64 t] w fun e w' => e = .returned (.int .i64 1) ∧ w = w' := by
  go_enter Try.func14, Try.ntmps14
  go_wp2
  go_ret
  exact ⟨rfl, rfl⟩
set_option maxHeartbeats 1000000 in
theorem sample_any (b : Nat) (r : R) (t : Int) (w : World) (h : Held 45 w b r) (ho : r.Ok) (ht : 0 ≤ t) :
    Calls Try.prog 14 #[.pointer (some ⟨b, 0, none⟩), .int .i64 t] w fun e w' => e = .returned (.int .i64 0) ∧ Hid (Held 45 w' b (r.samp t) ∧ w.grownBy w' (some b)) := by
  obtain ⟨T, hT⟩ : ∃ T, mn t 1048576 = T := ⟨_, rfl⟩
  have hT1 : 0 ≤ T ∧ T ≤ 1048576 := by rw [← hT]; exact clip ht
  have hS := ho.nextS hT1
  have hV := ho.nextV hT1
  have hd := ho.off hT1
  obtain ⟨x, l, m, any, s, v⟩ := r
  have h1 : w.cell? ⟨b, 1, none⟩ = some (.int .i64 l) := h.cell 1
  have h2 : w.cell? ⟨b, 2, none⟩ = some (.int .i64 m) := h.cell 2
  have h3 : w.cell? ⟨b, 3, none⟩ = some (.bool any) := h.cell 3
  have h4 : w.cell? ⟨b, 4, none⟩ = some (.int .i64 s) := h.cell 4
  have h5 : w.cell? ⟨b, 5, none⟩ = some (.int .i64 v) := h.cell 5
  have h0 : w.cell? ⟨b, 0, none⟩ = some (.int .i64 x) := h.cell 0
  have hf0 : w.frozen? ⟨b, 0, none⟩ = false := h.free 0
  have hf3 : w.frozen? ⟨b, 3, none⟩ = false := h.free 3
  have hf4 : w.frozen? ⟨b, 4, none⟩ = false := h.free 4
  have hf5 : w.frozen? ⟨b, 5, none⟩ = false := h.free 5
  have hb : (0 ≤ s ∧ s ≤ 8388608) ∧ (0 ≤ v ∧ v ≤ 4194304) := by obtain ⟨a1, a2, a3, a4, a5, a6, a7, a8⟩ := ho; simp only at *; omega
  obtain ⟨hs, hv⟩ := hb
  have HH := Lib.hid h
  have HTT := Lib.hid hT
  simp only [R.nextS, R.nextV] at hS hV hd
  clear h ho
  cases any
  · simp only [Bool.false_eq_true, if_false] at hS hV
    clear hd
    have hm := mx_le 1 (2 * T)
    go_enter Try.func14, Try.ntmps14
    go_wp2
    refine wp_region_still_tail 23 (by kernel_rfl) (by kernel_rfl) ?_
    change wpStill _ _ (World.drew _) (fun a' => wpList _ _ _ _ a' (World.drew _)) _ _
    simp only [List.take_succ_cons, List.take_zero, List.drop_succ_cons, List.drop_zero]
    repeat still_step
    still_call (between_still _ _ _ _)
    repeat still_step
    refine wpStill_nil ?_
    go_wp2
    go_ret
    refine ⟨rfl, ?_, grown_drew (grown_trans (grown_trans (grown_trans grown_set grown_set) grown_set) grown_set)⟩
    have e : (R.mk x l m false s v).samp t = ⟨btw (T + mx 1 (2 * T)) l m, l, m, true, 8 * T, 2 * T⟩ := by
      have e8 : 8 * T / 8 = T := by omega
      simp only [R.samp, R.nextS, R.nextV, HTT.out, Bool.false_eq_true, if_false, e8]
    rw [e]
    exact ((((HH.out.set 3 _ ⟨x, l, m, true, s, v⟩ rfl).set 4 _ ⟨x, l, m, true, 8 * T, v⟩ rfl).set 5 _ ⟨x, l, m, true, 8 * T, 2 * T⟩ rfl).set 0 _ ⟨btw (T + mx 1 (2 * T)) l m, l, m, true, 8 * T, 2 * T⟩ rfl).drew
  · simp only [if_true] at hS hV
    have hm := mx_le 1 (v + (mx (s / 8 - T) (-(s / 8 - T)) - v / 4))
    go_enter Try.func14, Try.ntmps14
    go_wp2
    refine wp_region_still_tail 17 (by kernel_rfl) (by kernel_rfl) ?_
    change wpStill _ _ (World.drew _) (fun a' => wpList _ _ _ _ a' (World.drew _)) _ _
    simp only [List.take_succ_cons, List.take_zero, List.drop_succ_cons, List.drop_zero]
    repeat still_step
    refine wpStill_nil ?_
    go_wp2
    refine wp_region_still_tail 14 (by kernel_rfl) (by kernel_rfl) ?_
    change wpStill _ _ (World.drew _) (fun a' => wpList _ _ _ _ a' (World.drew _)) _ _
    simp only [List.take_succ_cons, List.take_zero, List.drop_succ_cons, List.drop_zero]
    repeat still_step
    refine wpStill_nil ?_
    go_wp2
    refine wp_region_still_tail 23 (by kernel_rfl) (by kernel_rfl) ?_
    change wpStill _ _ (World.drew _) (fun a' => wpList _ _ _ _ a' (World.drew _)) _ _
    simp only [List.take_succ_cons, List.take_zero, List.drop_succ_cons, List.drop_zero]
    repeat still_step
    still_call (between_still _ _ _ _)
    repeat still_step
    refine wpStill_nil ?_
    go_wp2
    go_ret
    refine ⟨rfl, ?_, grown_drew (grown_drew (grown_drew (grown_trans (grown_trans grown_set grown_set) grown_set)))⟩
    have e : (R.mk x l m true s v).samp t = ⟨btw ((s + (T - s / 8)) / 8 + mx 1 (v + (mx (s / 8 - T) (-(s / 8 - T)) - v / 4))) l m, l, m, true, s + (T - s / 8), v + (mx (s / 8 - T) (-(s / 8 - T)) - v / 4)⟩ := by
      simp only [R.samp, R.nextS, R.nextV, HTT.out, if_true]
    rw [e]
    exact (((HH.out.set 5 _ ⟨x, l, m, true, s, v + (mx (s / 8 - T) (-(s / 8 - T)) - v / 4)⟩ rfl).set 4 _ ⟨x, l, m, true, s + (T - s / 8), v + (mx (s / 8 - T) (-(s / 8 - T)) - v / 4)⟩ rfl).set 0 _ ⟨btw ((s + (T - s / 8)) / 8 + mx 1 (v + (mx (s / 8 - T) (-(s / 8 - T)) - v / 4))) l m, l, m, true, s + (T - s / 8), v + (mx (s / 8 - T) (-(s / 8 - T)) - v / 4)⟩ rfl).drew.drew.drew
end Go.Proofs.Ytakbnmongagmfaa

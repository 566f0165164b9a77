/- Walked: the reference's estimator: New, Back, Value, Smooth and Sample. -/
import Derived.Test.YtakbnmongagmfaaWalkB
namespace Go.Proofs.Ytakbnmongagmfaa
open Go.RowKit M
set_option linter.unusedVariables false
attribute [local go_sem] max_i64 min_i64

theorem refBack_any (b : Nat) (r : R) (w : World) (h : Held 47 w b r) (ho : r.Ok) :
    Calls Try.prog 13 #[.pointer (some ⟨b, 0, none⟩)] w fun e w' => e = .returned (.tuple #[]) ∧ Hid (Held 47 w' b r.back ∧ w.grownBy w' (some b)) := by
  obtain ⟨x, l, m, any, s, v⟩ := r
  have h0 : w.cell? ⟨b, 0, none⟩ = some (.int .i64 x) := h.cell 0
  have h2 : w.cell? ⟨b, 2, none⟩ = some (.int .i64 m) := h.cell 2
  have hf : w.frozen? ⟨b, 0, none⟩ = false := h.free 0
  have HT : Hid (Held 47 (w.setCell ⟨b, 0, none⟩ (.int .i64 (mn (2 * x) m))).drew b ⟨mn (2 * x) m, l, m, any, s, v⟩ ∧ w.grownBy (w.setCell ⟨b, 0, none⟩ (.int .i64 (mn (2 * x) m))).drew (some b)) :=
    ⟨(h.set 0 _ ⟨mn (2 * x) m, l, m, any, s, v⟩ rfl).drew, grown_drew grown_set⟩
  have hb : 1 ≤ x ∧ x ≤ 1048576 := by obtain ⟨a1, a2, a3, a4, _⟩ := ho; simp only at *; omega
  clear h ho
  go_enter Try.func13, Try.ntmps13
  go_wp2
  go_region
  go_wp2
  go_end0
  exact ⟨rfl, HT⟩
theorem refBack_nil (w : World) : Calls Try.prog 13 #[.pointer none] w fun e w' => e = .returned (.tuple #[]) ∧ w = w' := by
  go_enter Try.func13, Try.ntmps13
  go_wp2
  go_end0
  exact ⟨rfl, rfl⟩
theorem refValue_any (b : Nat) (r : R) (w : World) (h : Held 47 w b r) :
    Calls Try.prog 19 #[.pointer (some ⟨b, 0, none⟩)] w fun e w' => e = .returned (.int .i64 r.x) ∧ w = w' := by
  have h0 : w.cell? ⟨b, 0, none⟩ = some (.int .i64 r.x) := h.cell 0
  clear h
  go_enter Try.func19, Try.ntmps19
  go_wp2
  go_ret
  exact ⟨rfl, rfl⟩
theorem refValue_nil (w : World) : Calls Try.prog 19 #[.pointer none] w fun e w' => e = .returned (.int .i64 0) ∧ w = w' := by
  go_enter Try.func19, Try.ntmps19
  go_wp2
  go_ret
  exact ⟨rfl, rfl⟩
theorem refSmooth_any (b : Nat) (r : R) (w : World) (h : Held 47 w b r) (ho : r.Ok) :
    Calls Try.prog 17 #[.pointer (some ⟨b, 0, none⟩)] w fun e w' => e = .returned (.tuple #[.int .i64 (smoothed r), .bool r.any]) ∧ w = w' := by
  obtain ⟨x, l, m, any, s, v⟩ := r
  have h3 : w.cell? ⟨b, 3, none⟩ = some (.bool any) := h.cell 3
  have h4 : w.cell? ⟨b, 4, none⟩ = some (.int .i64 s) := h.cell 4
  have hs : 0 ≤ s ∧ s ≤ 8388608 := by obtain ⟨a1, a2, a3, a4, a5, a6, a7, a8⟩ := ho; simp only at *; omega
  clear h ho
  cases any
  · go_enter Try.func17, Try.ntmps17
    go_wp2
    go_ret2
    exact ⟨rfl, rfl⟩
  · go_enter Try.func17, Try.ntmps17
    go_wp2
    go_ret2
    exact ⟨rfl, rfl⟩
theorem refSmooth_nil (w : World) : Calls Try.prog 17 #[.pointer none] w fun e w' => e = .returned (.tuple #[.int .i64 0, .bool false]) ∧ w = w' := by
  go_enter Try.func17, Try.ntmps17
  go_wp2
  go_ret2
  exact ⟨rfl, rfl⟩
theorem refNew_good (f l m : Int) (w : World) (h : Fits3 f l m) :
    Calls Try.prog 11 #[.int .i64 f, .int .i64 l, .int .i64 m] w fun e w' => e = .returned (.tuple #[.pointer (some ⟨w.heap.size, 0, none⟩), .int .i64 0]) ∧ Hid (w' = w.alloc (.cells (made f l m).cells 47)) := by
  obtain ⟨a1, a2, a3, a4⟩ := h
  go_enter Try.func11, Try.ntmps11
  go_wp2
  go_ret2
  exact ⟨rfl, Lib.hid rfl⟩
theorem refNew_bad (f l m : Int) (w : World) (h : ¬ Fits3 f l m) :
    Calls Try.prog 11 #[.int .i64 f, .int .i64 l, .int .i64 m] w fun e w' => e = .returned (.tuple #[.pointer none, .int .i64 1]) ∧ w = w' := by
  have h' : l < 1 ∨ (¬ l < 1 ∧ f < l) ∨ (¬ l < 1 ∧ ¬ f < l ∧ m < f) ∨ (¬ l < 1 ∧ ¬ f < l ∧ ¬ m < f ∧ 1048576 < m) := by
    unfold Fits3 at h; omega
  clear h
  rcases h' with h1 | ⟨h1, h2⟩ | ⟨h1, h2, h3⟩ | ⟨h1, h2, h3, h4⟩
  all_goals
    go_enter Try.func11, Try.ntmps11
    go_wp2
    go_ret2
    exact ⟨rfl, rfl⟩
theorem refSample_nil (t : Int) (w : World) : Calls Try.prog 15 #[.pointer none, .int .i64 t] w fun e w' => e = .returned (.int .i64 2) ∧ w = w' := by
  go_enter Try.func15, Try.ntmps15
  go_wp2
  go_ret
  exact ⟨rfl, rfl⟩
theorem refSample_neg (b : Nat) (t : Int) (w : World) (h : t < 0) : Calls Try.prog 15 #[.pointer (some ⟨b, 0, none⟩), .int .i64 t] w fun e w' => e = .returned (.int .i64 1) ∧ w = w' := by
  go_enter Try.func15, Try.ntmps15
  go_wp2
  go_ret
  exact ⟨rfl, rfl⟩
set_option maxHeartbeats 2000000 in
theorem refSample_any (b : Nat) (r : R) (t : Int) (w : World) (h : Held 47 w b r) (ho : r.Ok) (ht : 0 ≤ t) :
    Calls Try.prog 15 #[.pointer (some ⟨b, 0, none⟩), .int .i64 t] w fun e w' => e = .returned (.int .i64 0) ∧ Hid (Held 47 w' b (r.samp t) ∧ w.grownBy w' (some b)) := by
  obtain ⟨T, hT⟩ : ∃ T, mn t 1048576 = T := ⟨_, rfl⟩
  have hT1 : 0 ≤ T ∧ T ≤ 1048576 := by rw [← hT]; exact clip ht
  have hS := ho.nextS hT1
  have hV := ho.nextV hT1
  have hd := ho.off hT1
  obtain ⟨x, l, m, any, s, v⟩ := r
  have h1 : w.cell? ⟨b, 1, none⟩ = some (.int .i64 l) := h.cell 1
  have h2 : w.cell? ⟨b, 2, none⟩ = some (.int .i64 m) := h.cell 2
  have h3 : w.cell? ⟨b, 3, none⟩ = some (.bool any) := h.cell 3
  have h4 : w.cell? ⟨b, 4, none⟩ = some (.int .i64 s) := h.cell 4
  have h5 : w.cell? ⟨b, 5, none⟩ = some (.int .i64 v) := h.cell 5
  have h0 : w.cell? ⟨b, 0, none⟩ = some (.int .i64 x) := h.cell 0
  have hf0 : w.frozen? ⟨b, 0, none⟩ = false := h.free 0
  have hf3 : w.frozen? ⟨b, 3, none⟩ = false := h.free 3
  have hf4 : w.frozen? ⟨b, 4, none⟩ = false := h.free 4
  have hf5 : w.frozen? ⟨b, 5, none⟩ = false := h.free 5
  have hb : (0 ≤ s ∧ s ≤ 8388608) ∧ (0 ≤ v ∧ v ≤ 4194304) := by obtain ⟨a1, a2, a3, a4, a5, a6, a7, a8⟩ := ho; simp only at *; omega
  obtain ⟨hs, hv⟩ := hb
  have HH := Lib.hid h
  have HTT := Lib.hid hT
  simp only [R.nextS, R.nextV] at hS hV hd
  clear h ho
  cases any
  · simp only [Bool.false_eq_true, if_false] at hS hV
    clear hd
    have hm := mx_le 1 (2 * T)
    go_enter Try.func15, Try.ntmps15
    go_wp2
    refine wp_region_still_tail 14 (by kernel_rfl) (by kernel_rfl) ?_
    change wpStill _ _ (World.drew _) (fun a' => wpList _ _ _ _ a' (World.drew _)) _ _
    simp only [List.take_succ_cons, List.take_zero, List.drop_succ_cons, List.drop_zero]
    repeat still_step
    refine wpStill_nil ?_
    go_wp2
    refine wp_region_still_tail 17 (by kernel_rfl) (by kernel_rfl) ?_
    change wpStill _ _ (World.drew _) (fun a' => wpList _ _ _ _ a' (World.drew _)) _ _
    simp only [List.take_succ_cons, List.take_zero, List.drop_succ_cons, List.drop_zero]
    repeat still_step
    refine wpStill_nil ?_
    go_wp2
    go_ret
    refine ⟨rfl, ?_, grown_drew (grown_drew (grown_trans (grown_trans (grown_trans (grown_trans grown_set grown_set) grown_set) grown_set) grown_set))⟩
    have e : (R.mk x l m false s v).samp t = ⟨btw (T + mx 1 (2 * T)) l m, l, m, true, 8 * T, 2 * T⟩ := by
      have e8 : 8 * T / 8 = T := by omega
      simp only [R.samp, R.nextS, R.nextV, HTT.out, Bool.false_eq_true, if_false, e8]
    rw [e]
    exact (((((HH.out.set 3 _ ⟨x, l, m, true, s, v⟩ rfl).set 4 _ ⟨x, l, m, true, 8 * T, v⟩ rfl).set 5 _ ⟨x, l, m, true, 8 * T, 2 * T⟩ rfl).set 0 _ ⟨T + mx 1 (2 * T), l, m, true, 8 * T, 2 * T⟩ rfl).set 0 _ ⟨btw (T + mx 1 (2 * T)) l m, l, m, true, 8 * T, 2 * T⟩ rfl).drew.drew
  · simp only [if_true] at hS hV
    obtain ⟨d, hdd⟩ : ∃ d, mx (s / 8 - T) (-(s / 8 - T)) = d := ⟨_, rfl⟩
    have hD : (s / 8 - T < 0 ∧ d = -(s / 8 - T)) ∨ (¬ s / 8 - T < 0 ∧ d = s / 8 - T) := by
      rw [← hdd]; unfold mx
      by_cases h : s / 8 - T < 0
      · rw [if_pos (by omega)]; exact .inl ⟨h, rfl⟩
      · by_cases h2 : s / 8 - T < -(s / 8 - T)
        · omega
        · rw [if_neg h2]; exact .inr ⟨h, rfl⟩
    rw [hdd] at hd hV
    have e : (R.mk x l m true s v).samp t = ⟨btw ((s - s / 8 + T) / 8 + mx 1 (v - v / 4 + d)) l m, l, m, true, s - s / 8 + T, v - v / 4 + d⟩ := by
      have e1 : s + (T - s / 8) = s - s / 8 + T := by omega
      have e2 : v + (d - v / 4) = v - v / 4 + d := by omega
      simp only [R.samp, R.nextS, R.nextV, HTT.out, if_true, hdd, e1, e2]
    have HE := Lib.hid e
    have hS1 : 0 ≤ s - s / 8 + T ∧ s - s / 8 + T ≤ 8388608 := by omega
    have hV1 : 0 ≤ v - v / 4 + d ∧ v - v / 4 + d ≤ 4194304 := by omega
    have hm := mx_le 1 (v - v / 4 + d)
    clear hS hV hdd e
    rcases hD with ⟨hn, rfl⟩ | ⟨hn, rfl⟩
    · go_enter Try.func15, Try.ntmps15
      go_wp2
      refine wp_region_still_tail 15 (by kernel_rfl) (by kernel_rfl) ?_
      change wpStill _ _ (World.drew _) (fun a' => wpList _ _ _ _ a' (World.drew _)) _ _
      simp only [List.take_succ_cons, List.take_zero, List.drop_succ_cons, List.drop_zero]
      repeat still_step
      refine wpStill_nil ?_
      go_wp2
      refine wp_region_still_tail 15 (by kernel_rfl) (by kernel_rfl) ?_
      change wpStill _ _ (World.drew _) (fun a' => wpList _ _ _ _ a' (World.drew _)) _ _
      simp only [List.take_succ_cons, List.take_zero, List.drop_succ_cons, List.drop_zero]
      repeat still_step
      refine wpStill_nil ?_
      go_wp2
      refine wp_region_still_tail 14 (by kernel_rfl) (by kernel_rfl) ?_
      change wpStill _ _ (World.drew _) (fun a' => wpList _ _ _ _ a' (World.drew _)) _ _
      simp only [List.take_succ_cons, List.take_zero, List.drop_succ_cons, List.drop_zero]
      repeat still_step
      refine wpStill_nil ?_
      go_wp2
      refine wp_region_still_tail 17 (by kernel_rfl) (by kernel_rfl) ?_
      change wpStill _ _ (World.drew _) (fun a' => wpList _ _ _ _ a' (World.drew _)) _ _
      simp only [List.take_succ_cons, List.take_zero, List.drop_succ_cons, List.drop_zero]
      repeat still_step
      refine wpStill_nil ?_
      go_wp2
      go_ret
      refine ⟨rfl, ?_, grown_drew (grown_drew (grown_drew (grown_drew (grown_trans (grown_trans (grown_trans grown_set grown_set) grown_set) grown_set))))⟩
      rw [HE.out]
      exact ((((HH.out.set 5 (.int .i64 (v - v / 4 + (-(s / 8 - T)))) ⟨x, l, m, true, s, (v - v / 4 + (-(s / 8 - T)))⟩ rfl).set 4 (.int .i64 (s - s / 8 + T)) ⟨x, l, m, true, (s - s / 8 + T), (v - v / 4 + (-(s / 8 - T)))⟩ rfl).set 0 (.int .i64 ((s - s / 8 + T) / 8 + mx 1 (v - v / 4 + (-(s / 8 - T))))) ⟨((s - s / 8 + T) / 8 + mx 1 (v - v / 4 + (-(s / 8 - T)))), l, m, true, (s - s / 8 + T), (v - v / 4 + (-(s / 8 - T)))⟩ rfl).set 0 (.int .i64 (btw ((s - s / 8 + T) / 8 + mx 1 (v - v / 4 + (-(s / 8 - T)))) l m)) ⟨btw ((s - s / 8 + T) / 8 + mx 1 (v - v / 4 + (-(s / 8 - T)))) l m, l, m, true, (s - s / 8 + T), (v - v / 4 + (-(s / 8 - T)))⟩ rfl).drew.drew.drew.drew
    · go_enter Try.func15, Try.ntmps15
      go_wp2
      refine wp_region_still_tail 15 (by kernel_rfl) (by kernel_rfl) ?_
      change wpStill _ _ (World.drew _) (fun a' => wpList _ _ _ _ a' (World.drew _)) _ _
      simp only [List.take_succ_cons, List.take_zero, List.drop_succ_cons, List.drop_zero]
      repeat still_step
      refine wpStill_nil ?_
      go_wp2
      refine wp_region_still_tail 15 (by kernel_rfl) (by kernel_rfl) ?_
      change wpStill _ _ (World.drew _) (fun a' => wpList _ _ _ _ a' (World.drew _)) _ _
      simp only [List.take_succ_cons, List.take_zero, List.drop_succ_cons, List.drop_zero]
      repeat still_step
      refine wpStill_nil ?_
      go_wp2
      refine wp_region_still_tail 14 (by kernel_rfl) (by kernel_rfl) ?_
      change wpStill _ _ (World.drew _) (fun a' => wpList _ _ _ _ a' (World.drew _)) _ _
      simp only [List.take_succ_cons, List.take_zero, List.drop_succ_cons, List.drop_zero]
      repeat still_step
      refine wpStill_nil ?_
      go_wp2
      refine wp_region_still_tail 17 (by kernel_rfl) (by kernel_rfl) ?_
      change wpStill _ _ (World.drew _) (fun a' => wpList _ _ _ _ a' (World.drew _)) _ _
      simp only [List.take_succ_cons, List.take_zero, List.drop_succ_cons, List.drop_zero]
      repeat still_step
      refine wpStill_nil ?_
      go_wp2
      go_ret
      refine ⟨rfl, ?_, grown_drew (grown_drew (grown_drew (grown_drew (grown_trans (grown_trans (grown_trans grown_set grown_set) grown_set) grown_set))))⟩
      rw [HE.out]
      exact ((((HH.out.set 5 (.int .i64 (v - v / 4 + (s / 8 - T))) ⟨x, l, m, true, s, (v - v / 4 + (s / 8 - T))⟩ rfl).set 4 (.int .i64 (s - s / 8 + T)) ⟨x, l, m, true, (s - s / 8 + T), (v - v / 4 + (s / 8 - T))⟩ rfl).set 0 (.int .i64 ((s - s / 8 + T) / 8 + mx 1 (v - v / 4 + (s / 8 - T)))) ⟨((s - s / 8 + T) / 8 + mx 1 (v - v / 4 + (s / 8 - T))), l, m, true, (s - s / 8 + T), (v - v / 4 + (s / 8 - T))⟩ rfl).set 0 (.int .i64 (btw ((s - s / 8 + T) / 8 + mx 1 (v - v / 4 + (s / 8 - T))) l m)) ⟨btw ((s - s / 8 + T) / 8 + mx 1 (v - v / 4 + (s / 8 - T))) l m, l, m, true, (s - s / 8 + T), (v - v / 4 + (s / 8 - T))⟩ rfl).drew.drew.drew.drew
end Go.Proofs.Ytakbnmongagmfaa

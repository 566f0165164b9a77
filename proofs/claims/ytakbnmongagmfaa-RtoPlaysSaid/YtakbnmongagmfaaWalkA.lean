/- Walked: an estimator's Back, Value, Smooth and New, the program's own and the reference's. -/
import Derived.Test.YtakbnmongagmfaaProg
import Derived.Test.YtakbnmongagmfaaBase
import Derived.RegionTactic
import Derived.Deep.QuietTactic
import Derived.BigQuiet
namespace Go.Proofs.Ytakbnmongagmfaa
open Go.RowKit M
set_option linter.unusedVariables false
attribute [local go_sem] max_i64 min_i64

theorem between_any (x l m : Int) (w : World) : Calls Try.prog 20 #[.int .i64 x, .int .i64 l, .int .i64 m] w fun e w' => e = .returned (.int .i64 (btw x l m)) ∧ w = w' := by
  go_enter Try.func20, Try.ntmps20
  go_wp2
  go_ret
  exact ⟨rfl, rfl⟩

theorem back_any (b : Nat) (r : R) (w : World) (h : Held 45 w b r) (ho : r.Ok) :
    Calls Try.prog 12 #[.pointer (some ⟨b, 0, none⟩)] w fun e w' => e = .returned (.tuple #[]) ∧ Hid (Held 45 w' b r.back ∧ w.grownBy w' (some b)) := by
  obtain ⟨x, l, m, any, s, v⟩ := r
  have h0 : w.cell? ⟨b, 0, none⟩ = some (.int .i64 x) := h.cell 0
  have h2 : w.cell? ⟨b, 2, none⟩ = some (.int .i64 m) := h.cell 2
  have hf : w.frozen? ⟨b, 0, none⟩ = false := h.free 0
  have HT : Hid (Held 45 (w.setCell ⟨b, 0, none⟩ (.int .i64 (mn (2 * x) m))).drew b ⟨mn (2 * x) m, l, m, any, s, v⟩ ∧ w.grownBy (w.setCell ⟨b, 0, none⟩ (.int .i64 (mn (2 * x) m))).drew (some b)) :=
    ⟨(h.set 0 _ ⟨mn (2 * x) m, l, m, any, s, v⟩ rfl).drew, grown_drew grown_set⟩
  have hb : 1 ≤ x ∧ x ≤ 1048576 := by obtain ⟨a1, a2, a3, a4, _⟩ := ho; simp only at *; omega
  clear h ho
  go_enter Try.func12, Try.ntmps12
  go_wp2
  go_region
  go_wp2
  go_end0
  exact ⟨rfl, HT⟩
theorem back_nil (w : World) : Calls Try.prog 12 #[.pointer none] w fun e w' => e = .returned (.tuple #[]) ∧ w = w' := by
  go_enter Try.func12, Try.ntmps12
  go_wp2
  go_end0
  exact ⟨rfl, rfl⟩
theorem value_any (b : Nat) (r : R) (w : World) (h : Held 45 w b r) :
    Calls Try.prog 18 #[.pointer (some ⟨b, 0, none⟩)] w fun e w' => e = .returned (.int .i64 r.x) ∧ w = w' := by
  have h0 : w.cell? ⟨b, 0, none⟩ = some (.int .i64 r.x) := h.cell 0
  clear h
  go_enter Try.func18, Try.ntmps18
  go_wp2
  go_ret
  exact ⟨rfl, rfl⟩
theorem value_nil (w : World) : Calls Try.prog 18 #[.pointer none] w fun e w' => e = .returned (.int .i64 0) ∧ w = w' := by
  go_enter Try.func18, Try.ntmps18
  go_wp2
  go_ret
  exact ⟨rfl, rfl⟩
def smoothed (r : R) : Int := if r.any then r.s / 8 else 0
theorem smooth_any (b : Nat) (r : R) (w : World) (h : Held 45 w b r) (ho : r.Ok) :
    Calls Try.prog 16 #[.pointer (some ⟨b, 0, none⟩)] w fun e w' => e = .returned (.tuple #[.int .i64 (smoothed r), .bool r.any]) ∧ w = w' := by
  obtain ⟨x, l, m, any, s, v⟩ := r
  have h3 : w.cell? ⟨b, 3, none⟩ = some (.bool any) := h.cell 3
  have h4 : w.cell? ⟨b, 4, none⟩ = some (.int .i64 s) := h.cell 4
  have hs : 0 ≤ s ∧ s ≤ 8388608 := by obtain ⟨a1, a2, a3, a4, a5, a6, a7, a8⟩ := ho; simp only at *; omega
  clear h ho
  cases any
  · go_enter Try.func16, Try.ntmps16
    go_wp2
    go_ret2
    exact ⟨rfl, rfl⟩
  · go_enter Try.func16, Try.ntmps16
    go_wp2
    go_ret2
    exact ⟨rfl, rfl⟩
theorem smooth_nil (w : World) : Calls Try.prog 16 #[.pointer none] w fun e w' => e = .returned (.tuple #[.int .i64 0, .bool false]) ∧ w = w' := by
  go_enter Try.func16, Try.ntmps16
  go_wp2
  go_ret2
  exact ⟨rfl, rfl⟩
theorem new_good (f l m : Int) (w : World) (h : Fits3 f l m) :
    Calls Try.prog 10 #[.int .i64 f, .int .i64 l, .int .i64 m] w fun e w' => e = .returned (.tuple #[.pointer (some ⟨w.heap.size, 0, none⟩), .int .i64 0]) ∧ Hid (w' = w.alloc (.cells (made f l m).cells 45)) := by
  have hb := h.btw
  obtain ⟨a1, a2, a3, a4⟩ := h
  have h1 : l ≤ m := by omega
  go_enter Try.func10, Try.ntmps10
  go_wp2_with (go_at_call 20; refine (between_any _ _ _ _).mono ?_; rintro e w' ⟨rfl, rfl⟩)
  go_ret2
  exact ⟨rfl, Lib.hid rfl⟩
theorem new_bad (f l m : Int) (w : World) (h : ¬ Fits3 f l m) :
    Calls Try.prog 10 #[.int .i64 f, .int .i64 l, .int .i64 m] w fun e w' => e = .returned (.tuple #[.pointer none, .int .i64 1]) ∧ w = w' := by
  by_cases h1 : l < 1
  · clear h
    go_enter Try.func10, Try.ntmps10
    go_wp2
    go_ret2
    exact ⟨rfl, rfl⟩
  by_cases h2 : 1048576 < m
  · clear h
    go_enter Try.func10, Try.ntmps10
    go_wp2
    go_ret2
    exact ⟨rfl, rfl⟩
  by_cases h3 : m < l
  · clear h
    go_enter Try.func10, Try.ntmps10
    go_wp2
    go_ret2
    exact ⟨rfl, rfl⟩
  have hb := bad_btw h (by omega) (by omega) (by omega)
  have hb' : (f != btw f l m) = true := by simp; omega
  clear h hb
  go_enter Try.func10, Try.ntmps10
  go_wp2_with (go_at_call 20; refine (between_any _ _ _ _).mono ?_; rintro e w' ⟨rfl, rfl⟩)
  go_ret2
  exact ⟨rfl, rfl⟩
end Go.Proofs.Ytakbnmongagmfaa

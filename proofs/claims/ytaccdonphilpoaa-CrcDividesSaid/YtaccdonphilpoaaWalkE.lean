/- Walked: CopyBytes makes a slice of its own that reads as what came in; nothing that was there is turned. Conditions: the bytes read as l, at most a million of them. -/
import Derived.Test.YtaccdonphilpoaaWalkA
import Derived.Test.YtaccdonphilpoaaMem
namespace Go.Proofs.Ytaccdonphilpoaa
open Go.RowKit M
set_option linter.unusedVariables false

theorem info5 : (Try.prog.info? 5).map (fun i => (i.zero, i.size, i.bytes)) = some (some (.int .u8 0), 1, 1) := by kernel_rfl
theorem run_mk (n : Nat) (hn : n ≤ 2000000) (w : World) : (Instr.makeSlice 22 (.int .i64 n) (.int .i64 n)).run Try.prog w
    = .ok (.slice (some ⟨w.heap.size, 0, none⟩) n n) (w.alloc (.cells (Array.replicate n (.int .u8 0)) 5)) := by
  obtain ⟨i0, hi, hz0, hz1, hz2⟩ := info_parts info5
  have h := run_make (P := Try.prog) w 22 5 i0 (.int .u8 0) Try.underlying22 hi hz0 .i64 .i64 n n (by omega) (Int.le_refl _) (by rw [hz2]; omega) (by omega)
  rw [h, hz1]
  simp only [Int.toNat_natCast, zeros_made]

theorem copy_any (A : Option Addr) (l : List Int) (cap : Nat) (w : World) (hl : l.length ≤ 1000000) (hr : Row .u8 w A l) :
    Calls Try.prog 16 #[.slice A l.length cap] w fun e w' => ∃ v, e = .returned v ∧ w'.ownsRow w.heap.size 5 1 v l.length (l.map (Value.int .u8)) ∧ Below w.heap.size w w' := by
  have HR := Lib.hid hr
  clear hr
  by_cases h0 : l.length = 0
  · have h0' : ((l.length : Int) == 0) = true := by simp [h0]
    obtain rfl := List.eq_nil_of_length_eq_zero h0
    clear h0
    go_enter Try.func16, Try.ntmps16
    go_wp2
    go_ret
    exact ⟨_, rfl, World.ownsRow_nil _ _ _ _, Below.refl _ _⟩
  · have h0' : ((l.length : Int) == 0) = false := by simp; exact fun h => h0 (by simp [h])
    clear h0
    have hmk := run_mk l.length (by omega)
    go_enter Try.func16, Try.ntmps16
    go_wp2
    clear hmk
    go_loopw [4] (fun i wr => ∃ (k : Nat), i = .int .i64 k ∧ k ≤ l.length ∧ Hid (Below w.heap.size w wr ∧ Ints .u8 5 wr w.heap.size (l.take k ++ (List.replicate l.length 0).drop k))) (fun i _ => l.length - (intOf i).toNat)
    case atStart => exact ⟨0, rfl, Nat.zero_le _, (Below.refl _ _).alloc (Nat.le_refl _) _, by rw [List.take_zero, List.drop_zero, List.nil_append]; exact Ints.zeros _ _ _ _⟩
    case round =>
      obtain ⟨k, rfl, hk, HI⟩ := hrel
      by_cases hlt : k < l.length
      · obtain ⟨b, off, rfl, hc⟩ := (HR.out.kept HI.out.1).at_ hlt
        obtain ⟨c, hcd⟩ : ∃ c, l.getD k 0 = c := ⟨_, rfl⟩
        rw [hcd] at hc
        have HC := Lib.hid hcd
        clear hcd
        have hd := HI.out.2.cell (i := k) (by simp; omega)
        have hf := HI.out.2.free k
        go_wp2
        have HS : Hid (Below w.heap.size w _ ∧ Ints .u8 5 _ w.heap.size (l.take (k + 1) ++ (List.replicate l.length 0).drop (k + 1))) :=
          ⟨HI.out.1.setCell (p := ⟨w.heap.size, k, none⟩) (Nat.le_refl _) (.int .u8 c), by
            have h := HI.out.2.set k (l.getD k 0)
            rwa [take_set hlt (by simp), HC.out] at h⟩
        go_roundw
        case rel => exact ⟨k + 1, by go_num, by omega, HS⟩
        case measure => (simp [intOf] <;> omega)
      · go_wp2
        go_ret
        refine ⟨_, rfl, ?_, HI.out.1⟩
        have h := HI.out.2
        rw [List.take_of_length_le (by omega), List.drop_of_length_le (by simp; omega), List.append_nil] at h
        exact h.own (Nat.le_refl _) (by unfold maxLen; omega)
end Go.Proofs.Ytaccdonphilpoaa

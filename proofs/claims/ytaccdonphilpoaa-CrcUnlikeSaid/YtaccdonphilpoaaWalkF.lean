/- Walked: Roomy, EqBytes and Kept: Roomy copies and lays sixteen marks behind; Kept finds them, and nothing is turned. Conditions: the bytes read as l, at most a million of them. -/
import Derived.Test.YtaccdonphilpoaaWalkE
import Derived.Deep.QuietTactic
import Derived.BigQuiet
namespace Go.Proofs.Ytaccdonphilpoaa
open Go.RowKit M
set_option linter.unusedVariables false

theorem xor_self_u8 (c : Int) : Go.bits .xor .u8 c c = 0 := by
  show IntKind.u8.wrap _ = 0
  rw [BitVec.xor_self]; rfl
theorem or_nought : Go.bits .or .u8 0 0 = 0 := by decide

theorem eq_any (A A' : Option Addr) (l : List Int) (cap cap' : Nat) (w : World) (hl : l.length ≤ 1000000) (hr : Row .u8 w A l) (hr' : Row .u8 w A' l) :
    Calls Try.prog 19 #[.slice A l.length cap, .slice A' l.length cap'] w fun e w' => e = .returned (.bool true) ∧ ∃ n, w' = w.drewN n := by
  have HR := Lib.hid hr
  have HR' := Lib.hid hr'
  clear hr hr'
  go_enter Try.func19, Try.ntmps19
  go_wp2
  go_loopw [6, 7] (fun u i wr => ∃ (k : Nat), u = .int .u8 0 ∧ i = .int .i64 k ∧ k ≤ l.length ∧ Hid (∃ n, wr = w.drewN n)) (fun _ i _ => l.length - (intOf i).toNat)
  case atStart => exact ⟨0, rfl, rfl, Nat.zero_le _, 0, rfl⟩
  case round =>
    obtain ⟨k, rfl, rfl, hk, HD⟩ := hrel
    obtain ⟨n, rfl⟩ := HD.out
    clear HD
    by_cases hlt : k < l.length
    · obtain ⟨b, off, rfl, hc⟩ := HR.out.at_ hlt
      obtain ⟨b', off', rfl, hc'⟩ := HR'.out.at_ hlt
      obtain ⟨c, hcd⟩ : ∃ c, l.getD k 0 = c := ⟨_, rfl⟩
      rw [hcd] at hc hc'
      clear hcd
      have hx := xor_self_u8 c
      have ho := or_nought
      have hlt' : (k : Int) < (l.length : Int) := by omega
      go_wp2
      go_quiet (fail)
      go_wp2
      go_roundw
      case rel => exact ⟨k + 1, rfl, by go_num, by omega, _, rfl⟩
      case measure => (simp [intOf] <;> omega)
    · go_wp2
      go_ret
      exact ⟨rfl, _, rfl⟩
theorem roomy_any (A : Option Addr) (l : List Int) (cap : Nat) (w : World) (hl : l.length ≤ 1000000) (hr : Row .u8 w A l) :
    Calls Try.prog 10 #[.slice A l.length cap] w fun e w' => e = .returned (.slice (some ⟨w.heap.size, 0, none⟩) l.length (l.length + 16)) ∧ Hid (Below w.heap.size w w' ∧ ∃ m, Marked l m ∧ Ints .u8 5 w' w.heap.size m) := by
  have HR := Lib.hid hr
  clear hr
  have hmk := run_mk (l.length + 16) (by omega)
  have e16 : ((l.length + 16 : Nat) : Int) = (l.length : Int) + 16 := by omega
  simp only [e16] at hmk
  clear e16
  go_enter Try.func10, Try.ntmps10
  go_wp2
  clear hmk
  go_loopw [4] (fun i wr => ∃ (k : Nat), i = .int .i64 k ∧ l.length ≤ k ∧ k ≤ l.length + 16 ∧ Hid (Below w.heap.size w wr ∧ ∃ m : List Int, m.length = l.length + 16 ∧ (∀ j, l.length ≤ j → j < k → m.getD j 0 = 90) ∧ Ints .u8 5 wr w.heap.size m)) (fun i _ => l.length + 16 - (intOf i).toNat)
  case atStart => exact ⟨l.length, rfl, Nat.le_refl _, by omega, (Below.refl _ _).alloc (Nat.le_refl _) _, _, by simp, fun j h1 h2 => absurd h1 (by omega), Ints.zeros _ _ _ _⟩
  case round =>
    obtain ⟨k, rfl, hk1, hk2, HI⟩ := hrel
    by_cases hlt : k < l.length + 16
    · obtain ⟨hbl, m, hm, hq, hmi⟩ := HI.out
      have hd := hmi.cell (i := k) (by omega)
      have hf := hmi.free k
      have HS : Hid (Below w.heap.size w (wr.setCell ⟨w.heap.size, k, none⟩ (.int .u8 90)) ∧ ∃ m : List Int, m.length = l.length + 16 ∧ (∀ j, l.length ≤ j → j < k + 1 → m.getD j 0 = 90) ∧ Ints .u8 5 (wr.setCell ⟨w.heap.size, k, none⟩ (.int .u8 90)) w.heap.size m) :=
        ⟨hbl.setCell (p := ⟨w.heap.size, k, none⟩) (Nat.le_refl _) _, _, by rw [List.length_set]; exact hm, fun j h1 h2 => by
          rw [getD_set (by omega)]
          split
          · rfl
          · exact hq j h1 (by omega), hmi.set k 90⟩
      clear hbl hm hq hmi HI
      go_wp2
      go_roundw
      case rel => exact ⟨k + 1, by go_num, by omega, by omega, HS⟩
      case measure => (simp [intOf] <;> omega)
    · obtain rfl : k = l.length + 16 := by omega
      clear hlt hk1 hk2
      go_wp2
      obtain ⟨wo, hwo⟩ : ∃ wo : World, wo = wr := ⟨_, rfl⟩
      subst hwo
      go_loopw [5] (fun i wr => ∃ (k : Nat), i = .int .i64 k ∧ k ≤ l.length ∧ Hid (Below w.heap.size w wr ∧ ∃ m : List Int, m.length = l.length + 16 ∧ (∀ j, l.length ≤ j → j < l.length + 16 → m.getD j 0 = 90) ∧ (∀ j, j < k → m.getD j 0 = l.getD j 0) ∧ Ints .u8 5 wr w.heap.size m)) (fun i _ => l.length - (intOf i).toNat)
      case atStart =>
        obtain ⟨hbl, m, hm, hq, hmi⟩ := HI.out
        exact ⟨0, rfl, Nat.zero_le _, hbl, m, hm, hq, fun j h => absurd h (by omega), hmi⟩
      case round =>
        clear HI
        obtain ⟨k, rfl, hk, HI⟩ := hrel
        by_cases hlt : k < l.length
        · obtain ⟨b, off, rfl, hc⟩ := (HR.out.kept HI.out.1).at_ hlt
          obtain ⟨c, hcd⟩ : ∃ c, l.getD k 0 = c := ⟨_, rfl⟩
          rw [hcd] at hc
          obtain ⟨hbl, m, hm, hq, hq2, hmi⟩ := HI.out
          have hd := hmi.cell (i := k) (by omega)
          have hf := hmi.free k
          have HS : Hid (Below w.heap.size w (wr.setCell ⟨w.heap.size, k, none⟩ (.int .u8 c)) ∧ ∃ m : List Int, m.length = l.length + 16 ∧ (∀ j, l.length ≤ j → j < l.length + 16 → m.getD j 0 = 90) ∧ (∀ j, j < k + 1 → m.getD j 0 = l.getD j 0) ∧ Ints .u8 5 (wr.setCell ⟨w.heap.size, k, none⟩ (.int .u8 c)) w.heap.size m) :=
            ⟨hbl.setCell (p := ⟨w.heap.size, k, none⟩) (Nat.le_refl _) _, _, by rw [List.length_set]; exact hm, fun j h1 h2 => by
              rw [getD_set (by omega), if_neg (by omega)]
              exact hq j h1 h2, fun j h1 => by
              rw [getD_set (by omega)]
              split
              · rename_i e; subst e; exact hcd.symm
              · exact hq2 j (by omega), hmi.set k c⟩
          clear hbl hm hq hq2 hmi HI hcd
          go_wp2
          go_roundw
          case rel => exact ⟨k + 1, by go_num, by omega, HS⟩
          case measure => (simp [intOf] <;> omega)
        · obtain rfl : k = l.length := by omega
          go_wp2
          go_ret
          obtain ⟨hbl, m, hm, hq, hq2, hmi⟩ := HI.out
          exact ⟨rfl, hbl, m, ⟨hm, hq2, hq⟩, hmi⟩

theorem kept_any (B : Nat) (A' : Option Addr) (l m : List Int) (cap' : Nat) (w : World) (hl : l.length ≤ 1000000) (hm : Marked l m) (hi : Ints .u8 5 w B m) (hr' : Row .u8 w A' l) :
    Calls Try.prog 14 #[.slice (some ⟨B, 0, none⟩) l.length (l.length + 16), .slice A' l.length cap'] w fun e w' => e = .returned (.bool true) ∧ ∃ n, w' = w.drewN n := by
  have hr : Row .u8 w (some ⟨B, 0, none⟩) l := by
    have h := hi.part 0 l.length (by rw [hm.1]; omega)
    rwa [hm.part 0 l.length (by omega), List.drop_zero, List.take_length] at h
  have HC : Hid (∀ k, k < 16 → w.cell? ⟨B, l.length + k, none⟩ = some (.int .u8 90)) := fun k hk => by
    rw [hi.cell (by rw [hm.1]; omega), hm.2.2 _ (by omega) (by omega)]
  have C := Lib.hid (eq_any (some ⟨B, 0, none⟩) A' l (l.length + 16) cap' w hl hr hr')
  clear hr hr' hi hm
  go_enter Try.func14, Try.ntmps14
  go_wp2_with fail
  (go_at_call 19; (with_reducible refine C.out.mono ?_); rintro e w' ⟨rfl, n, rfl⟩)
  clear C
  go_wp2
  go_loopw [6] (fun i wr => ∃ (k : Nat), i = .int .i64 k ∧ k ≤ 16 ∧ Hid (∃ n, wr = w.drewN n)) (fun i _ => 16 - (intOf i).toNat)
  case atStart => exact ⟨0, rfl, by omega, _, rfl⟩
  case round =>
    obtain ⟨k, rfl, hk, HD⟩ := hrel
    obtain ⟨n, rfl⟩ := HD.out
    clear HD
    by_cases hlt : k < 16
    · have hc := HC.out k hlt
      go_wp2
      go_roundw
      case rel => exact ⟨k + 1, by go_num, by omega, _, rfl⟩
      case measure => (simp [intOf] <;> omega)
    · go_wp2
      go_ret
      exact ⟨rfl, _, rfl⟩
end Go.Proofs.Ytaccdonphilpoaa

/- Walked: crc.Sum and the reference's Extend answer sumOf and turn nothing in memory. Conditions: as at crc.Extend. -/
import Derived.Test.YtaccdonphilpoaaWalkA
namespace Go.Proofs.Ytaccdonphilpoaa
open Go.RowKit M
set_option linter.unusedVariables false

theorem sum_any (A : Option Addr) (l : List Int) (cap : Nat) (w : World) (hl : l.length ≤ 1000000) (hr : Row .u8 w A l) (hb : Bytes l) :
    Calls Try.prog 13 #[.slice A l.length cap] w fun e w' => e = .returned (.int .u32 (sumOf 0 l)) ∧ w = w' := by
  have HR := Lib.hid hr
  have HB := Lib.hid hb
  clear hr hb
  go_enter Try.func13, Try.ntmps13
  go_wp2_with (go_at_call 11; refine (extend_any _ _ _ _ _ (by omega) HR.out HB.out (by omega)).mono ?_; rintro e w' ⟨rfl, rfl⟩)
  go_ret
  exact ⟨rfl, rfl⟩

theorem refExtend_any (s : Int) (A : Option Addr) (l : List Int) (cap : Nat) (w : World) (hl : l.length ≤ 1000000) (hr : Row .u8 w A l) (hb : Bytes l) (hs : 0 ≤ s ∧ s ≤ 4294967295) :
    Calls Try.prog 12 #[.int .u32 s, .slice A l.length cap] w fun e w' => e = .returned (.int .u32 (sumOf s l)) ∧ w = w' := by
  have HR := Lib.hid hr
  have HB := Lib.hid hb
  clear hr hb
  go_enter Try.func12, Try.ntmps12
  go_wp2
  go_loop [5, 6] (fun x i => ∃ (X : Int) (k : Nat), x = .int .u32 X ∧ i = .int .i64 k ∧ k ≤ l.length ∧ Hid (X = ((ext (~~~ b32 s) (l.take k)).toNat : Int))) (fun _ i => l.length - (intOf i).toNat)
  case atStart => exact ⟨_, 0, rfl, rfl, Nat.zero_le _, Lib.hid (not_start' s)⟩
  case round =>
    obtain ⟨X, k, rfl, rfl, hk, HX⟩ := hrel
    by_cases hlt : k < l.length
    · obtain ⟨b, off, rfl, hc⟩ : ∃ b off, A = some ⟨b, off, none⟩ ∧ w.cell? ⟨b, off + k, none⟩ = some (.int .u8 (l.getD k 0)) := by
        rcases HR.out with h | ⟨b, off, h, hc⟩
        · subst h; simp at hlt
        · exact ⟨b, off, h, hc k hlt⟩
      have hc8 := HB.out.getD k
      obtain ⟨c, hcd⟩ : ∃ c, l.getD k 0 = c := ⟨_, rfl⟩
      rw [hcd] at hc hc8
      have HC := Lib.hid hcd
      clear hcd
      go_wp2
      go_loop [5, 7] (fun x j => ∃ (Y : Int) (m : Nat), x = .int .u32 Y ∧ j = .int .i64 m ∧ m ≤ 8 ∧ Hid (Y = ((steps m (ext (~~~ b32 s) (l.take k) ^^^ b32 c) ^^^ (b32 c >>> m)).toNat : Int))) (fun _ i => 8 - (intOf i).toNat)
      case atStart => exact ⟨_, 0, rfl, rfl, by omega, Lib.hid (ref_start HX.out)⟩
      case round =>
        obtain ⟨Y, m, rfl, rfl, hm, HY⟩ := hrel
        by_cases hm8 : m < 8
        · go_wp2
          · have HS := Lib.hid (ref_one HY.out hc8 ‹_›)
            go_round
            case rel => exact ⟨_, m + 1, rfl, by go_num, by omega, HS⟩
            case measure => simp [intOf]; omega
          · have HS := Lib.hid (ref_nought HY.out hc8 ‹_›)
            go_round
            case rel => exact ⟨_, m + 1, rfl, by go_num, by omega, HS⟩
            case measure => simp [intOf]; omega
        · have HE : Hid (Y = ((ext (~~~ b32 s) (l.take (k + 1))).toNat : Int)) := by
            have e : m = 8 := by omega
            subst e
            rw [ext_take _ _ _ hlt, HC.out]
            exact Lib.hid (ref_end hc8 HY.out)
          go_wp2
          go_round
          case rel => exact ⟨_, k + 1, rfl, by go_num, by omega, HE⟩
          case measure => simp [intOf]; omega
    · have HE : Hid (Go.bits .xor .u32 X 4294967295 = sumOf s l) := by
        have h := not_end' HX.out
        rw [List.take_of_length_le (by omega)] at h
        exact h
      go_wp2
      go_ret
      exact ⟨congrArg (fun n => Ending.returned (.int .u32 n)) HE.out, rfl⟩
end Go.Proofs.Ytaccdonphilpoaa

/- Walked: crc.Extend answers sumOf s l and turns nothing in memory. Conditions: the bytes read as l, each from 0 to 255, at most a million of them; s fits 32 bits. -/
import Derived.Test.YtaccdonphilpoaaProg
import Derived.Test.YtaccdonphilpoaaMath
import Derived.WalkKit
import Derived.WalkSpells
namespace Go.Proofs.Ytaccdonphilpoaa
open Go.RowKit M
set_option linter.unusedVariables false

theorem extend_any (s : Int) (A : Option Addr) (l : List Int) (cap : Nat) (w : World) (hl : l.length ≤ 1000000) (hr : Row .u8 w A l) (hb : Bytes l) (hs : 0 ≤ s ∧ s ≤ 4294967295) :
    Calls Try.prog 11 #[.int .u32 s, .slice A l.length cap] w fun e w' => e = .returned (.int .u32 (sumOf s l)) ∧ w = w' := by
  have HR := Lib.hid hr
  have HB := Lib.hid hb
  clear hr hb
  go_enter Try.func11, Try.ntmps11
  go_wp2
  go_loop [5, 12] (fun x i => ∃ (X : Int) (k : Nat), x = .int .u32 X ∧ i = .int .i64 k ∧ k ≤ l.length ∧ Hid (X = ((ext (~~~ b32 s) (l.take k)).toNat : Int))) (fun _ i => l.length - (intOf i).toNat)
  case atStart => exact ⟨_, 0, rfl, rfl, Nat.zero_le _, Lib.hid (not_start s)⟩
  case round =>
    obtain ⟨X, k, rfl, rfl, hk, HX⟩ := hrel
    by_cases hlt : k < l.length
    · obtain ⟨b, off, rfl, hc⟩ : ∃ b off, A = some ⟨b, off, none⟩ ∧ w.cell? ⟨b, off + k, none⟩ = some (.int .u8 (l.getD k 0)) := by
        rcases HR.out with h | ⟨b, off, h, hc⟩
        · subst h; simp at hlt
        · exact ⟨b, off, h, hc k hlt⟩
      have hc8 := HB.out.getD k
      obtain ⟨c, hcd⟩ : ∃ c, l.getD k 0 = c := ⟨_, rfl⟩
      rw [hcd] at hc hc8
      have HC := Lib.hid hcd
      clear hcd
      go_wp2
      go_loop [5, 20] (fun x j => ∃ (Y : Int) (m : Nat), x = .int .u32 Y ∧ j = .int .i64 m ∧ m ≤ 8 ∧ Hid (Y = ((steps m (ext (~~~ b32 s) (l.take k) ^^^ b32 c)).toNat : Int))) (fun _ i => 8 - (intOf i).toNat)
      case atStart => exact ⟨_, 0, rfl, rfl, by omega, Lib.hid (xor_in HX.out)⟩
      case round =>
        obtain ⟨Y, m, rfl, rfl, hm, HY⟩ := hrel
        by_cases hm8 : m < 8
        · by_cases h1 : Go.bits .and .u32 Y 1 = 1
          · have h1' : (Go.bits .and .u32 Y 1 == 1) = true := by simp [h1]
            have HS := Lib.hid (step_one HY.out h1)
            clear h1
            go_wp2
            go_round
            case rel => exact ⟨_, m + 1, rfl, by go_num, by omega, HS⟩
            case measure => simp [intOf]; omega
          · have h1' : (Go.bits .and .u32 Y 1 == 1) = false := by simp [h1]
            have HS := Lib.hid (step_nought HY.out h1)
            clear h1
            go_wp2
            go_round
            case rel => exact ⟨_, m + 1, rfl, by go_num, by omega, HS⟩
            case measure => simp [intOf]; omega
        · have HE : Hid (Y = ((ext (~~~ b32 s) (l.take (k + 1))).toNat : Int)) := by
            have e : m = 8 := by omega
            rw [Hid, ext_take _ _ _ hlt, HC.out, HY.out, e]; rfl
          go_wp2
          go_round
          case rel => exact ⟨_, k + 1, rfl, by go_num, by omega, HE⟩
          case measure => simp [intOf]; omega
    · have HE : Hid (Go.bits .xor .u32 IntKind.u32.max X = sumOf s l) := by
        have h := not_end HX.out
        rw [List.take_of_length_le (by omega)] at h
        exact h
      go_wp2
      go_ret
      exact ⟨congrArg (fun n => Ending.returned (.int .u32 n)) HE.out, rfl⟩
end Go.Proofs.Ytaccdonphilpoaa

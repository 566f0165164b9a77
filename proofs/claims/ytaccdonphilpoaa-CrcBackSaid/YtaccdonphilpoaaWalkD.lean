/- Walked: behind answers a sum S with sumOf S l = s, and turns nothing in memory. Conditions: as at crc.Extend. -/
import Derived.Test.YtaccdonphilpoaaWalkB
import Derived.Test.YtaccdonphilpoaaBits
namespace Go.Proofs.Ytaccdonphilpoaa
open Go.RowKit M
set_option linter.unusedVariables false

theorem behind_any (s : Int) (A : Option Addr) (l : List Int) (cap : Nat) (w : World) (hl : l.length ≤ 1000000) (hr : Row .u8 w A l) (hb : Bytes l) (hs : 0 ≤ s ∧ s ≤ 4294967295) :
    Calls Try.prog 15 #[.int .u32 s, .slice A l.length cap] w fun e w' => (∃ S, e = .returned (.int .u32 S) ∧ Hid (0 ≤ S ∧ S ≤ 4294967295 ∧ sumOf S l = s)) ∧ w = w' := by
  have HR := Lib.hid hr
  have HB := Lib.hid hb
  clear hr hb
  go_enter Try.func15, Try.ntmps15
  go_wp2
  go_loop [5, 6] (fun x i => ∃ (X : Int) (k : Int), x = .int .u32 X ∧ i = .int .i64 k ∧ -1 ≤ k ∧ k < 8 * (l.length : Int) ∧ Hid (Back s l k X)) (fun _ i => (intOf i + 1).toNat)
  case atStart => exact ⟨_, _, rfl, rfl, by omega, by omega, Lib.hid Back.start⟩
  case round =>
    obtain ⟨X, k, rfl, rfl, hk1, hk2, HX⟩ := hrel
    by_cases hlt : 0 ≤ k
    · obtain ⟨m, rfl⟩ := Int.eq_ofNat_of_zero_le hlt
      obtain ⟨b, off, rfl, hc⟩ : ∃ b off, A = some ⟨b, off, none⟩ ∧ w.cell? ⟨b, off + m / 8, none⟩ = some (.int .u8 (l.getD (m / 8) 0)) := by
        rcases HR.out with h | ⟨b, off, h, hc⟩
        · subst h; simp at hk2; omega
        · exact ⟨b, off, h, hc (m / 8) (by omega)⟩
      have hc8 := HB.out.getD (m / 8)
      obtain ⟨c, hcd⟩ : ∃ c, l.getD (m / 8) 0 = c := ⟨_, rfl⟩
      rw [hcd] at hc hc8
      have HC := Lib.hid hcd
      clear hcd
      have hm8 : (m : Int) / 8 < l.length := by omega
      go_wp2
      · have HS := Lib.hid (HX.out.next hk2 HC.out (fun R hR => back_one hR hc8 ‹_›))
        go_round
        case rel => exact ⟨_, _, rfl, rfl, by omega, by omega, HS⟩
        case measure => (simp [intOf] <;> omega)
      · have HS := Lib.hid (HX.out.next hk2 HC.out (fun R hR => back_nought hR hc8 ‹_›))
        go_round
        case rel => exact ⟨_, _, rfl, rfl, by omega, by omega, HS⟩
        case measure => (simp [intOf] <;> omega)
    · have HS := Lib.hid (HX.out.done (by omega) hk1 HB.out hs)
      go_wp2
      go_ret
      exact ⟨⟨_, rfl, HS⟩, rfl⟩
end Go.Proofs.Ytaccdonphilpoaa

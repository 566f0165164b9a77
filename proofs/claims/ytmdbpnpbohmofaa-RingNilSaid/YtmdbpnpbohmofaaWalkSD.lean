/- Walked: Clear of a ring of texts. -/
import Derived.Test.YtmdbpnpbohmofaaWalkSC
namespace Go.Proofs.Ytmdbpnpbohmofaa
open Go.RowKit M Go.Conc
set_option linter.unusedVariables false
theorem clearS_nil (w : World) : Calls Try.prog 17 #[.pointer none] w fun e w' => e = .returned (.tuple #[]) ∧ w = w' := by
  go_enter Try.func17, Try.ntmps17
  go_wp2_with fail
  refine wp_loop_rounds 1 ?_
  rw [rounds_succ]
  go_wp2_with (go_at_call 21; (with_reducible refine (lenS_nil _).mono ?_); rintro e w' ⟨rfl, rfl⟩)
  go_end0
  exact ⟨rfl, rfl⟩
theorem clearS_turn {w0 w : World} {F : Nat → Prop} {b n : Nat} {l : List ByteArray} (q : Owns 81 9 w0 w F b n (l.map (Value.string))) :
    Calls Try.prog 17 #[.pointer (some ⟨b, 0, none⟩)] w fun e w' => e = .returned (.tuple #[]) ∧ Hid (∃ F', Turn w w' F F' ∧ Owns 81 9 w0 w' F' b n []) := by
  have HH : Hid (∃ (l' : List ByteArray) (F' : Nat → Prop), Turn w w F F' ∧ Owns 81 9 w0 w F' b n (l'.map (Value.string))) := ⟨l, F, Turn.refl w F, q⟩
  clear q
  go_enter Try.func17, Try.ntmps17
  go_wp2_with fail
  obtain ⟨wo, hwo⟩ : ∃ wo : World, wo = w := ⟨_, rfl⟩
  subst hwo
  go_loopw [2] (fun _ wr => Hid (∃ (l' : List ByteArray) (F' : Nat → Prop), Turn wo wr F F' ∧ Owns 81 9 w0 wr F' b n (l'.map (Value.string)))) (fun _ wr => count wr b)
  case atStart => exact HH
  case round =>
    clear HH
    obtain ⟨l', F', t, o⟩ := hrel.out
    have hcnt := o.2.2.2.count
    rw [List.length_map] at hcnt
    have HT := Lib.hid t
    clear hrel t
    cases l' with
    | nil =>
      clear hcnt
      have hh : Holds 81 9 w0 _ b n [] := ⟨_, o⟩
      have CL := Lib.hid (lenS hh 0 rfl)
      have HO := Lib.hid o
      clear o hh
      go_wp2_with (go_at_call 21; (with_reducible refine CL.out.mono ?_); rintro e w' ⟨rfl, rfl⟩)
      go_end0
      exact ⟨rfl, _, HT.out, HO.out⟩
    | cons x l' =>
      have HO := Lib.hid o
      have HC := Lib.hid hcnt
      have hp2 : (0 : Int) < (l'.length : Int) + 1 := by omega
      have hh : Holds 81 9 w0 _ b n _ := ⟨_, o⟩
      have CL := Lib.hid (lenS hh ((l'.length : Int) + 1) (by simp))
      have CP := Lib.hid (popS_turn o)
      clear o hcnt hh
      go_wp2_with fail
      (go_at_call 21; (with_reducible refine CL.out.mono ?_); rintro e w' ⟨rfl, rfl⟩)
      go_wp2_with fail
      (go_at_call 18; (with_reducible refine CP.out.mono ?_); rintro e w2 ⟨rfl, HH⟩)
      clear HO hp2 CL CP
      obtain ⟨F2, t2, o2⟩ := HH.out
      have HR : Hid (∃ (l' : List ByteArray) (F' : Nat → Prop), Turn wo w2 F F' ∧ Owns 81 9 w0 w2 F' b n (l'.map (Value.string))) := ⟨_, _, HT.out.trans t2, o2⟩
      have HC2 : Hid (count w2 b = l'.length) := by have := o2.2.2.2.count; rw [List.length_map] at this; exact this
      clear HH t2 o2 HT
      go_wp2_with fail
      go_roundw
      case rel => exact HR
      case measure => rw [HC.out, HC2.out]; simp
theorem clearS {w0 w : World} {b n : Nat} {l : List ByteArray} (h : Holds 81 9 w0 w b n (l.map (Value.string))) :
    Calls Try.prog 17 #[.pointer (some ⟨b, 0, none⟩)] w fun e w' => e = .returned (.tuple #[]) ∧ Hid (Holds 81 9 w0 w' b n []) :=
  let ⟨_, q⟩ := h; (clearS_turn q).mono fun _ _ ⟨he, hh⟩ => ⟨he, let ⟨F', _, o⟩ := hh.out; Lib.hid ⟨F', o⟩⟩
end Go.Proofs.Ytmdbpnpbohmofaa

/- Walked: works returns true and turns nothing that was there. Conditions: none. -/
import Derived.Test.YtakbnmongagmfaaWalkB
namespace Go.Proofs.Ytakbnmongagmfaa
open Go.RowKit M
set_option linter.unusedVariables false

theorem sample_lit (b : Nat) (r r' : R) (t : Int) (w : World) (h : Held 45 w b r) (ho : r.Ok) (ht : 0 ≤ t) (e : r.samp t = r') :
    Calls Try.prog 14 #[.pointer (some ⟨b, 0, none⟩), .int .i64 t] w fun e w' => e = .returned (.int .i64 0) ∧ Hid (Held 45 w' b r' ∧ w.grownBy w' (some b)) := by
  subst e; exact sample_any b r t w h ho ht
theorem back_lit (b : Nat) (r r' : R) (w : World) (h : Held 45 w b r) (ho : r.Ok) (e : r.back = r') :
    Calls Try.prog 12 #[.pointer (some ⟨b, 0, none⟩)] w fun e w' => e = .returned (.tuple #[]) ∧ Hid (Held 45 w' b r' ∧ w.grownBy w' (some b)) := by
  subst e; exact back_any b r w h ho

set_option maxHeartbeats 1000000 in
theorem works_any (w : World) : Calls Try.prog 9 #[] w fun e w' => e = .returned (.bool true) ∧ Below w.heap.size w w' := by
    go_enter Try.func9, Try.ntmps9
    go_wp2_with fail
    (go_at_call 10; (with_reducible refine (new_good 3 1 60 w (by unfold Fits3; decide)).mono ?_); rintro e w1 ⟨rfl, h1⟩)
    have HH : Hid (Below w.heap.size w w1 ∧ Held 45 w1 w.heap.size ⟨3, 1, 60, false, 0, 0⟩) := by
      rw [h1.out]
      exact ⟨(Below.refl _ _).alloc (Nat.le_refl _) _, Held.new _ _ _⟩
    clear h1
    go_wp2_with fail
    (go_at_call 18; (with_reducible refine (value_any _ _ _ HH.out.2).mono ?_); rintro e w1 ⟨rfl, rfl⟩)
    go_wp2_with fail
    (go_at_call 14; (with_reducible refine (sample_lit _ _ ⟨24, 1, 60, true, 64, 16⟩ 8 _ HH.out.2 (by unfold R.Ok; decide) (by decide) (by kernel_rfl)).mono ?_); rintro e w1 ⟨rfl, h1⟩)
    replace HH := Lib.hid (And.intro (HH.out.1.grown h1.out.2 HH.out.1.size (fun k hk => by cases hk; exact Nat.le_refl _)) h1.out.1)
    clear h1
    go_wp2_with fail
    (go_at_call 18; (with_reducible refine (value_any _ _ _ HH.out.2).mono ?_); rintro e w1 ⟨rfl, rfl⟩)
    go_wp2_with fail
    (go_at_call 14; (with_reducible refine (sample_lit _ _ ⟨20, 1, 60, true, 64, 12⟩ 8 _ HH.out.2 (by unfold R.Ok; decide) (by decide) (by kernel_rfl)).mono ?_); rintro e w1 ⟨rfl, h1⟩)
    replace HH := Lib.hid (And.intro (HH.out.1.grown h1.out.2 HH.out.1.size (fun k hk => by cases hk; exact Nat.le_refl _)) h1.out.1)
    clear h1
    go_wp2_with fail
    (go_at_call 18; (with_reducible refine (value_any _ _ _ HH.out.2).mono ?_); rintro e w1 ⟨rfl, rfl⟩)
    go_wp2_with fail
    (go_at_call 14; (with_reducible refine (sample_lit _ _ ⟨24, 1, 60, true, 56, 17⟩ 0 _ HH.out.2 (by unfold R.Ok; decide) (by decide) (by kernel_rfl)).mono ?_); rintro e w1 ⟨rfl, h1⟩)
    replace HH := Lib.hid (And.intro (HH.out.1.grown h1.out.2 HH.out.1.size (fun k hk => by cases hk; exact Nat.le_refl _)) h1.out.1)
    clear h1
    go_wp2_with fail
    (go_at_call 18; (with_reducible refine (value_any _ _ _ HH.out.2).mono ?_); rintro e w1 ⟨rfl, rfl⟩)
    go_wp2_with fail
    (go_at_call 12; (with_reducible refine (back_lit _ _ ⟨48, 1, 60, true, 56, 17⟩ _ HH.out.2 (by unfold R.Ok; decide) (by kernel_rfl)).mono ?_); rintro e w1 ⟨rfl, h1⟩)
    replace HH := Lib.hid (And.intro (HH.out.1.grown h1.out.2 HH.out.1.size (fun k hk => by cases hk; exact Nat.le_refl _)) h1.out.1)
    clear h1
    go_wp2_with fail
    (go_at_call 16; (with_reducible refine (smooth_any _ _ _ HH.out.2 (by unfold R.Ok; decide)).mono ?_); rintro e w1 ⟨rfl, rfl⟩)
    go_wp2_with fail
    (go_at_call 18; (with_reducible refine (value_any _ _ _ HH.out.2).mono ?_); rintro e w1 ⟨rfl, rfl⟩)
    go_wp2_with fail
    (go_at_call 14; (with_reducible refine (sample_neg _ _ _ (by decide)).mono ?_); rintro e w1 ⟨rfl, rfl⟩)
    go_wp2_with fail
    go_ret
    exact ⟨rfl, HH.out.1⟩
end Go.Proofs.Ytakbnmongagmfaa

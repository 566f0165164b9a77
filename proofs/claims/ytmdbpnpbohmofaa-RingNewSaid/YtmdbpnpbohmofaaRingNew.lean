/- Proved: 'Rows.RingNewSaid': for every input fairleadlaw05.RingNew returns true, and each argument reads afterwards as before. Conditions: none beyond the given row's own. -/
import Derived.Test.YtmdbpnpbohmofaaRows
import Derived.WalkKit
import Derived.ProofKit
import Derived.OpenShut
import Derived.ShutString
import Derived.ChangeOld
import Derived.ChangeMaps5
import Derived.Below
import Derived.Test.YtmdbpnpbohmofaaWalkBA
import Derived.Test.YtmdbpnpbohmofaaWorks
namespace Go.Proofs.Ytmdbpnpbohmofaa.ringNew
open Go.ChangeShapes Go.WideShapes Go.ChangeAt Go.RowKit
open Go.ChangeMaps (open_string shut_string)
set_option linter.unusedVariables false
open M

theorem own : ownKnob Try.prog.godebug = none := by kernel_rfl
theorem laidOut : laidOutB Try.prog = true := by kernel_rfl

theorem walk (a0 : Int) (w : World) (w0 : (Lit.int .i64 a0).wf = true) :
    Calls Try.prog 8 #[.int .i64 a0] w fun e w' => e = .returned (.bool true) ∧ Below w.heap.size w w' := by
  clear w0
  by_cases h1 : 4000 < a0 ∧ a0 < 1048576
  · obtain ⟨h1, h2⟩ := h1
    have d1 : decide (a0 < 1048576) = true := by simpa using h2
    go_enter Try.func8, Try.ntmps8
    go_wp2_with (go_at_call 16; (with_reducible refine (works_any _).mono ?_); rintro e w4 ⟨rfl, hB⟩)
    go_ret
    exact ⟨rfl, hB⟩
  by_cases h2 : 1 ≤ a0 ∧ a0 ≤ 1048576
  · obtain ⟨n, rfl⟩ : ∃ n : Nat, a0 = n := ⟨a0.toNat, by omega⟩
    obtain ⟨b, hb⟩ : ∃ b, w.heap.size + 1 = b := ⟨_, rfl⟩
    have CN := newB n n rfl w h2.1 h2.2
    rw [hb] at CN
    have CN := Lib.hid CN
    clear hb
    have hd : (¬ 4000 < (n : Int) ∨ (4000 < (n : Int) ∧ ¬ (n : Int) < 1048576)) := by omega
    obtain ⟨g1, g2⟩ := h2
    have g3 : ¬ (n : Int) < 1 := by omega
    have g4 : ¬ 1048576 < (n : Int) := by omega
    clear h1
    rcases hd with h1 | ⟨h1, h0⟩
    all_goals
      go_enter Try.func8, Try.ntmps8
      go_wp2_with (first
        | (go_at_call 27; (with_reducible refine CN.out.mono ?_); rintro e w1 ⟨rfl, HH⟩)
        | (go_at_call 28; (with_reducible refine (lenB HH.out 0 rfl).mono ?_); rintro e w' ⟨rfl, rfl⟩)
        | (go_at_call 29; (with_reducible refine (roomB HH.out n (by simp)).mono ?_); rintro e w2 ⟨rfl, H2⟩)
        | (go_at_call 16; (with_reducible refine (works_any _).mono ?_); rintro e w4 ⟨rfl, hB⟩))
      go_ret
      exact ⟨rfl, H2.out.below.trans (hB.mono H2.out.below.size)⟩
  · have hd : (a0 < 1 ∧ ¬ 4000 < a0) ∨ (¬ a0 < 1 ∧ 1048576 < a0 ∧ 4000 < a0 ∧ ¬ a0 < 1048576) := by omega
    clear h1
    rcases hd with ⟨h1, h0⟩ | ⟨h0, h1, h3, h4⟩
    all_goals
      go_enter Try.func8, Try.ntmps8
      go_wp2_with (first
        | (go_at_call 27; (with_reducible refine (newB_bad _ _ h2).mono ?_); rintro e w' ⟨rfl, rfl⟩)
        | (go_at_call 16; (with_reducible refine (works_any _).mono ?_); rintro e w4 ⟨rfl, hB⟩))
      go_ret
      exact ⟨rfl, hB⟩

/-! ### The row's step -/
set_option maxRecDepth 100000 in
theorem lifted (os : Os) (started : os.Started) (H : Type) (enc : TypeId × Value → H) :
    ReturnsInHanded {} Try.checked os 8 .any (Rows.ringNewSpec.pre6 enc Try.prog Try.f8 Rows.ringNewRow.domain false) (Rows.ringNewSpec.post enc Try.prog Try.f8 false true false false) := by
  refine returnsInHanded_of_change (C := Try.checked) own started (by kernel_rfl) Try.func8
    (ChangeSpec.witness6 (enc := enc) (C := Try.checked) false ⟨#[], #[.int .i64 0], []⟩ 8 (by kernel_rfl) (by kernel_rfl) (by kernel_rfl) (by kernel_rfl)) ?_
  intro W base args ds gs before hval0 hW hcnd _
  have hval : ∀ (j : Nat) t v, Try.f8.params[j]? = some t → args[j]? = some v → Value.okWide Try.prog W .any base t v := hval0
  have hW' := hW
  obtain ⟨p, q, hA0, hV, rfl, hfz, hnd⟩ := hW
  have hA : DataW.TrodAll enc Try.prog W 0 (fun _ => true) true Try.f8.params.toList args.toList ds p := hA0
  rw [Try.params8] at hA hval
  obtain ⟨v0, vs0, d0, ds0, p0, q0, hargs, rfl, rfl, h0, rr0⟩ := trodAll_cons hA
  obtain ⟨rfl, rfl, rfl⟩ := trodAll_nil rr0
  obtain rfl : args = #[v0] := by cases args; simp_all
  obtain ⟨rfl, rfl⟩ := trodVars_none hV
  obtain ⟨a0, rfl, rfl, rfl, w0⟩ := open_int Try.underlying3 (hval 0 3 v0 rfl rfl) h0
  clear hA0 hval0
  simp only [List.append_nil] at hW'
  refine (walk a0 W w0).mono fun e W' ⟨he, bel⟩ => ?_
  subst he
  exact ⟨_, rfl, _, _, _, [], [], [], hW', trodAll_mk1 (shut_bool Try.underlying4 _), (trodAll_cons_mk (shut_int Try.underlying3 w0) trodAll_mk0), rfl, bel.frame _, fun h => by cases h⟩

theorem over : Rows.ringNewRow.holds Try.pinned (OpenSpec.ofChange Rows.ringNewSpec) :=
  OpenClaim.holds_of_wide 8 Try.f8 rfl rfl rfl rfl rfl rfl rfl ⟨rfl, rfl, rfl, rfl, rfl⟩ rfl rfl rfl rfl rfl (by kernel_rfl) Try.func8 (by kernel_rfl)
    (of_decide_eq_true (by kernel_rfl)) (by unfold Func.isWrapper; first | (rw [if_pos (by decide +kernel)]; kernel_rfl) | (rw [if_neg (by decide +kernel)]; exact ⟨rfl, rfl⟩))
    (fun os started H enc _ => lifted os started H enc)

/-- The statement. -/
theorem proved : Rows.RingNewSaid := over
#print axioms proved
end Go.Proofs.Ytmdbpnpbohmofaa.ringNew

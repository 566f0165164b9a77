/- Proved: 'Rows.DelayNilSaid': for every input fairleadlaw16.DelayNil returns true, and each argument reads afterwards as before. Conditions: none beyond the given row's own. (The frame round the walk was written by the kit's proof-skeleton.mjs.) -/
import Derived.Test.YtjemamdldeeebaaRows
import Derived.WalkKit
import Derived.ProofKit
import Derived.OpenShut
import Derived.ChangeOld
import Derived.Below
import Derived.Test.YtjemamdldeeebaaShell
import Derived.Test.YtjemamdldeeebaaWalkC
import Derived.ShutString
namespace Go.Proofs.Ytjemamdldeeebaa.delayNil
open Go.ChangeShapes Go.WideShapes Go.ChangeAt Go.RowKit
open Go.ChangeMaps (open_string shut_string)
set_option linter.unusedVariables false      -- a walk need not use every 'w<i>' (that an integer argument fits its kind)
open M
attribute [local go_sem] max_i64 min_i64

theorem own : ownKnob Try.prog.godebug = none := by kernel_rfl

/-! ### STEP 1: THE WALK: the Go text returns true. 'Below w.heap.size w w'': the world has at most new blocks (Derived/RowKit3.lean). Part the cases AHEAD of 'go_enter' where a test parts the walk; take each callee by a contract of your own. -/
set_option maxHeartbeats 1000000 in
set_option maxRecDepth 100000 in
theorem walk (a0 : Int) (a1 : Int) (w0 : (Lit.int .i64 a0).wf = true) (w1 : (Lit.int .i64 a1).wf = true) (w : World) :
    Calls Try.prog 8 #[.int .i64 a0, .int .i64 a1] w fun e w' => e = .returned (.bool true) ∧ Below w.heap.size w w' := by
  clear w0 w1
  by_cases hf : 0 ≤ a0 ∧ a0 ≤ 1048576
  · obtain ⟨h0, h1⟩ := hf
    have d0 : decide (0 ≤ a0) = true := by simpa using h0
    have d1 : decide (a0 ≤ 1048576) = true := by simpa using h1
    go_enter Try.func8, Try.ntmps8
    go_wp2_with (first
      | (go_at_call 12; (with_reducible refine (packet_nil _ _ _).mono ?_); rintro e w' ⟨rfl, rfl⟩)
      | (go_at_call 14; (with_reducible refine (sent_nil _).mono ?_); rintro e w' ⟨rfl, rfl⟩)
      | (go_at_call 16; (with_reducible refine (when_nil _).mono ?_); rintro e w1 ⟨rfl, hW⟩)
      | (go_at_call 10; (with_reducible refine (new_good _ _ h0 h1).mono ?_); rintro e w2 ⟨rfl, hN⟩)
      | (go_at_call 18; (with_reducible refine (due_nil _ _).mono ?_); rintro e w3 ⟨rfl, hD⟩)
      | (go_at_call 9; (with_reducible refine (works_any _).mono ?_); rintro e w4 ⟨rfl, hB⟩))
    go_ret
    have hN2 : Below w1.heap.size w1 w2 := by rw [hN.out]; exact (Below.refl _ _).alloc (Nat.le_refl _) _
    have h2 := hW.trans (hN2.mono hW.size)
    have h3 := h2.trans (hD.mono h2.size)
    exact ⟨rfl, h3.trans (hB.mono h3.size)⟩
  · have hf' : (decide (0 ≤ a0) = false ∧ a0 < 0) ∨ (decide (0 ≤ a0) = true ∧ decide (a0 ≤ 1048576) = false ∧ 0 ≤ a0 ∧ 1048576 < a0) := by
      by_cases h : 0 ≤ a0
      · right
        have h' : ¬ a0 ≤ 1048576 := fun h' => hf ⟨h, h'⟩
        exact ⟨by simpa using h, by simpa using h', h, by omega⟩
      · left
        exact ⟨by simpa using h, by omega⟩
    rcases hf' with ⟨d0, h0⟩ | ⟨d0, d1, h0, h1⟩
    all_goals
      go_enter Try.func8, Try.ntmps8
      go_wp2_with (first
        | (go_at_call 12; (with_reducible refine (packet_nil _ _ _).mono ?_); rintro e w' ⟨rfl, rfl⟩)
        | (go_at_call 14; (with_reducible refine (sent_nil _).mono ?_); rintro e w' ⟨rfl, rfl⟩)
        | (go_at_call 16; (with_reducible refine (when_nil _).mono ?_); rintro e w1 ⟨rfl, hW⟩)
        | (go_at_call 10; (with_reducible refine (new_bad _ _ hf).mono ?_); rintro e w' ⟨rfl, rfl⟩)
        | (go_at_call 18; (with_reducible refine (due_nil _ _).mono ?_); rintro e w3 ⟨rfl, hD⟩)
        | (go_at_call 9; (with_reducible refine (works_any _).mono ?_); rintro e w4 ⟨rfl, hB⟩))
      go_ret
      have h3 := hW.trans (hD.mono hW.size)
      exact ⟨rfl, h3.trans (hB.mono h3.size)⟩

/-! ### THE ROW's STEP: WRITTEN OUT: LEAVE IT -/
set_option maxRecDepth 100000 in
theorem lifted (os : Os) (started : os.Started) (H : Type) (enc : TypeId × Value → H) :
    ReturnsInHanded {} Try.checked os 8 .any (Rows.delayNilSpec.pre6 enc Try.prog Try.f8 Rows.delayNilRow.domain false) (Rows.delayNilSpec.post enc Try.prog Try.f8 false true false false) := by
  refine returnsInHanded_of_change (C := Try.checked) own started (by kernel_rfl) Try.func8
    (ChangeSpec.witness6 (enc := enc) (C := Try.checked) false ⟨#[], #[.int .i64 0, .int .i64 0], []⟩ 8 (by kernel_rfl) (by kernel_rfl) (by kernel_rfl) (by kernel_rfl)) ?_
  intro W base args ds gs before hval0 hW hcnd _
  have hval : ∀ (j : Nat) t v, Try.f8.params[j]? = some t → args[j]? = some v → Value.okWide Try.prog W .any base t v := hval0
  have hW' := hW
  obtain ⟨p, q, hA0, hV, rfl, hfz, hnd⟩ := hW
  have hA : DataW.TrodAll enc Try.prog W 0 (fun _ => true) true Try.f8.params.toList args.toList ds p := hA0
  rw [Try.params8] at hA hval
  obtain ⟨v0, vs0, d0, ds0, p0, q0, hargs, rfl, rfl, h0, r0⟩ := trodAll_cons hA
  obtain ⟨v1, vs1, d1, ds1, p1, q1, rfl, rfl, rfl, h1, r1⟩ := trodAll_cons r0
  obtain ⟨rfl, rfl, rfl⟩ := trodAll_nil r1
  obtain rfl : args = #[v0, v1] := by cases args; simp_all
  obtain ⟨rfl, rfl⟩ := trodVars_none hV
  obtain ⟨a0, rfl, rfl, rfl, w0⟩ := open_int Try.underlying2 (hval 0 2 v0 rfl rfl) h0
  obtain ⟨a1, rfl, rfl, rfl, w1⟩ := open_int Try.underlying2 (hval 1 2 v1 rfl rfl) h1
  clear hA0 hval0
  simp only [List.append_nil] at hW'
  refine (walk a0 a1 w0 w1 W).mono fun e W' ⟨he, bel⟩ => ?_
  subst he
  exact ⟨_, rfl, _, _, _, [], [], [], hW', (trodAll_cons_mk (shut_bool Try.underlying4 _) trodAll_mk0), (trodAll_cons_mk (shut_int Try.underlying2 w0) (trodAll_cons_mk (shut_int Try.underlying2 w1) trodAll_mk0)), rfl, bel.frame _, fun h => by cases h⟩

theorem over : Rows.delayNilRow.holds Try.pinned (OpenSpec.ofChange Rows.delayNilSpec) :=
  OpenClaim.holds_of_wide 8 Try.f8 rfl rfl rfl rfl rfl rfl rfl ⟨rfl, rfl, rfl, rfl, rfl⟩ rfl rfl rfl rfl rfl (by kernel_rfl) Try.func8 (by kernel_rfl)
    (of_decide_eq_true (by kernel_rfl)) (by unfold Func.isWrapper; first | (rw [if_pos (by decide +kernel)]; kernel_rfl) | (rw [if_neg (by decide +kernel)]; exact ⟨rfl, rfl⟩))
    (fun os started H enc _ => lifted os started H enc)

/-- ████ THE STATEMENT ████ -/
theorem proved : Rows.DelayNilSaid :=
  over
#print axioms proved
end Go.Proofs.Ytjemamdldeeebaa.delayNil

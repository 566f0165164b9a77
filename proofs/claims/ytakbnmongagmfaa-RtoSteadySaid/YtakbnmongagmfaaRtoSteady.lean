/- Proved: 'Rows.RtoSteadySaid': for every input fairleadlaw12.RtoSteady returns true, and each argument reads afterwards as before. Conditions: none beyond the given row's own. (The frame round the walk was written by the kit's proof-skeleton.mjs.) -/
import Derived.Test.YtakbnmongagmfaaRows
import Derived.WalkKit
import Derived.ProofKit
import Derived.OpenShut
import Derived.ChangeOld
import Derived.Below
import Derived.Test.YtakbnmongagmfaaWorks
import Derived.ShutString
namespace Go.Proofs.Ytakbnmongagmfaa.rtoSteady
open Go.ChangeShapes Go.WideShapes Go.ChangeAt Go.RowKit
open Go.ChangeMaps (open_string shut_string)
set_option linter.unusedVariables false      -- a walk need not use every 'w<i>' (that an integer argument fits its kind)
open M
attribute [local go_sem] max_i64 min_i64

theorem own : ownKnob Try.prog.godebug = none := by kernel_rfl

/-! ### STEP 1: THE WALK: the Go text returns true. 'Below w.heap.size w w'': the world has at most new blocks (Derived/RowKit3.lean). Part the cases AHEAD of 'go_enter' where a test parts the walk; take each callee by a contract of your own. -/
set_option maxHeartbeats 1000000 in
set_option maxRecDepth 100000 in
theorem walk (a0 : Int) (a1 : Int) (a2 : Int) (a3 : Int) (w0 : (Lit.int .i64 a0).wf = true) (w1 : (Lit.int .i64 a1).wf = true) (w2 : (Lit.int .i64 a2).wf = true) (w3 : (Lit.int .i64 a3).wf = true) (w : World) :
    Calls Try.prog 5 #[.int .i64 a0, .int .i64 a1, .int .i64 a2, .int .i64 a3] w fun e w' => e = .returned (.bool true) ∧ Below w.heap.size w w' := by
  have wb := wf_i64 w3
  clear w0 w1 w2 w3
  by_cases hg : Fits3 a0 a1 a2
  case neg =>
    go_enter Try.func5, Try.ntmps5
    go_wp2_with (first
      | (go_at_call 10; (with_reducible refine (new_bad _ _ _ _ hg).mono ?_); rintro e w' ⟨rfl, rfl⟩)
      | (go_at_call 9; (with_reducible refine (works_any _).mono ?_); rintro e w' ⟨rfl, hB⟩))
    go_ret
    exact ⟨rfl, hB⟩
  by_cases ht : 0 ≤ a3 ∧ a3 ≤ 1048576
  case neg =>
    have ht' : a3 < 0 ∨ 1048576 < a3 := by omega
    rcases ht' with h | h
    all_goals
      clear ht
      go_enter Try.func5, Try.ntmps5
      go_wp2_with (first
        | (go_at_call 10; (with_reducible refine (new_good _ _ _ _ hg).mono ?_); rintro e w1 ⟨rfl, h1⟩)
        | (go_at_call 9; (with_reducible refine (works_any _).mono ?_); rintro e w' ⟨rfl, hB⟩))
      go_ret
      refine ⟨rfl, ?_⟩
      have h2 : Below w.heap.size w w1 := by rw [h1.out]; exact (Below.refl _ _).alloc (Nat.le_refl _) _
      exact h2.trans (hB.mono h2.size)
  obtain ⟨ht0, ht1⟩ := ht
  have HG := Lib.hid hg
  have hlm : a1 ≤ a2 := by obtain ⟨_, _, _, _⟩ := hg; omega
  clear hg
  go_enter Try.func5, Try.ntmps5
  go_wp2_with fail
  (go_at_call 10; (with_reducible refine (new_good _ _ _ _ HG.out).mono ?_); rintro e w1 ⟨rfl, h1⟩)
  have HH : Hid (Below w.heap.size w w1 ∧ ∃ r : R, r.Ok ∧ Same a3 a1 a2 0 r ∧ Held 45 w1 w.heap.size r) := by
    rw [h1.out]
    exact ⟨(Below.refl _ _).alloc (Nat.le_refl _) _, made a0 a1 a2, HG.out.ok, ⟨rfl, rfl, .inl ⟨rfl, rfl⟩⟩, Held.new _ _ _⟩
  clear h1
  go_wp2_with fail
  obtain ⟨wo, hwo⟩ : ∃ wo : World, wo = w1 := ⟨_, rfl⟩
  subst hwo
  go_loopw [11] (fun i wr => ∃ k : Nat, i = .int .i64 k ∧ k ≤ 100 ∧ Hid (Below w.heap.size w wr ∧ ∃ r : R, r.Ok ∧ Same a3 a1 a2 k r ∧ Held 45 wr w.heap.size r)) (fun i _ => 100 - (intOf i).toNat)
  case atStart => exact ⟨0, rfl, by omega, HH⟩
  case round =>
  clear HH
  obtain ⟨k, rfl, hk, HH⟩ := hrel
  by_cases hlt : k < 100
  · obtain ⟨hbl, r, hok, hs, hh⟩ := HH.out
    have C := Lib.hid (sample_any _ r a3 wr hh hok ht0)
    have hs1 := hs.next ⟨ht0, ht1⟩
    have hok1 := hok.samp ht0
    have HS : Hid (∀ w2, (Held 45 w2 w.heap.size (r.samp a3) ∧ wr.grownBy w2 (some w.heap.size)) →
        Calls Try.prog 16 #[.pointer (some ⟨w.heap.size, 0, none⟩)] w2 (fun e w' => e = .returned (.tuple #[.int .i64 a3, .bool true]) ∧ w2 = w') ∧
        Hid (Below w.heap.size w w2 ∧ ∃ r : R, r.Ok ∧ Same a3 a1 a2 (k + 1) r ∧ Held 45 w2 w.heap.size r)) := by
      rintro w2 ⟨h1, h2⟩
      refine ⟨?_, hbl.grown h2 hbl.size (fun k hk => by cases hk; exact Nat.le_refl _), _, hok1, hs1, h1⟩
      have h := smooth_any _ _ w2 h1 hok1
      rw [show smoothed (r.samp a3) = a3 from hs1.smooth.2] at h
      exact h
    clear hbl hok hs hh HH hs1 hok1
    go_wp2_with fail
    (go_at_call 14; (with_reducible refine C.out.mono ?_); rintro e w2 ⟨rfl, h1⟩)
    obtain ⟨cs, HN⟩ := HS.out w2 h1.out
    have CS := Lib.hid cs
    clear cs h1 HS C
    go_wp2_with (go_at_call 16; (with_reducible refine CS.out.mono ?_); rintro e w' ⟨rfl, rfl⟩)
    go_roundw
    case rel => exact ⟨k + 1, by go_num, by omega, HN⟩
    case measure => (simp [intOf] <;> omega)
  have hkn : k = 100 := by omega
  have hge : 100 ≤ (k : Int) := by omega
  obtain ⟨hbl, r, hok, hs, hh⟩ := HH.out
  rw [hkn] at hs
  obtain ⟨v, hv⟩ : ∃ v, r.v = v := ⟨_, rfl⟩
  obtain ⟨x, hx⟩ : ∃ x, r.x = x := ⟨_, rfl⟩
  have hst := Same.still ⟨ht0, ht1⟩ (j := 0) hs
  have HV : Hid (decN 99 (2 * a3) = v) := by rw [Hid, ← hst.1]; exact hv
  have HX : Hid (btw (a3 + mx 1 v) a1 a2 = x) := by rw [Hid, ← hv, ← hst.2.2.2]; exact hx
  have hv3 : 0 ≤ v ∧ v ≤ 3 := by rw [← hv]; exact ⟨hst.2.1, hst.2.2.1⟩
  have hsb := steady_bounds (t := a3) (l := a1) (m := a2) hv3
  rw [HX.out] at hsb
  have CV : Hid (Calls Try.prog 18 #[.pointer (some ⟨w.heap.size, 0, none⟩)] wr fun e w' => e = .returned (.int .i64 x) ∧ wr = w') := by rw [Hid, ← hx]; exact value_any _ r wr hh
  have HH2 : Hid (Below w.heap.size w wr ∧ ∃ r : R, r.Ok ∧ Same a3 a1 a2 (100 + 0) r ∧ Held 45 wr w.heap.size r) := ⟨hbl, r, hok, hs, hh⟩
  have hbig : x ≤ 1048576 ∧ 1 ≤ x := by obtain ⟨_, _, _, _, _⟩ := hok; omega
  clear hbl hok hs hh HH hst hv hx hkn hk hlt
  go_wp2_with (go_at_call 18; (with_reducible refine CV.out.mono ?_); rintro e w' ⟨rfl, rfl⟩)
  clear hge CV
  obtain ⟨wo, hwo⟩ : ∃ wo : World, wo = wr := ⟨_, rfl⟩
  subst hwo
  go_loopw [15] (fun i wr => ∃ k : Nat, i = .int .i64 k ∧ k ≤ 20 ∧ Hid (Below w.heap.size w wr ∧ ∃ r : R, r.Ok ∧ Same a3 a1 a2 (100 + k) r ∧ Held 45 wr w.heap.size r)) (fun i _ => 20 - (intOf i).toNat)
  case atStart => exact ⟨0, rfl, by omega, HH2⟩
  case round =>
  clear HH2
  obtain ⟨k, rfl, hk, HH⟩ := hrel
  by_cases hlt : k < 20
  · obtain ⟨hbl, r, hok, hs, hh⟩ := HH.out
    have C := Lib.hid (sample_any _ r a3 wr hh hok ht0)
    have hs1 := hs.next ⟨ht0, ht1⟩
    have hok1 := hok.samp ht0
    have HS : Hid (∀ w2, (Held 45 w2 w.heap.size (r.samp a3) ∧ wr.grownBy w2 (some w.heap.size)) →
        Hid (Below w.heap.size w w2 ∧ ∃ r : R, r.Ok ∧ Same a3 a1 a2 (100 + (k + 1)) r ∧ Held 45 w2 w.heap.size r)) := by
      rintro w2 ⟨h1, h2⟩
      exact ⟨hbl.grown h2 hbl.size (fun k hk => by cases hk; exact Nat.le_refl _), _, hok1, hs1, h1⟩
    clear hbl hok hs hh HH hs1 hok1
    go_wp2_with (go_at_call 14; (with_reducible refine C.out.mono ?_); rintro e w2 ⟨rfl, h1⟩)
    have HN := HS.out w2 h1.out
    clear h1 HS C
    go_roundw
    case rel => exact ⟨k + 1, by go_num, by omega, HN⟩
    case measure => (simp [intOf] <;> omega)
  obtain ⟨hbl, r, hok, hs, hh⟩ := HH.out
  have hst := Same.still ⟨ht0, ht1⟩ hs
  have hrx : r.x = x := by rw [hst.2.2.2, hst.1, HV.out]; exact HX.out
  have CV : Hid (Calls Try.prog 18 #[.pointer (some ⟨w.heap.size, 0, none⟩)] wr fun e w' => e = .returned (.int .i64 x) ∧ wr = w') := by rw [Hid, ← hrx]; exact value_any _ r wr hh
  have HBL := Lib.hid hbl
  clear hbl hok hs hh HH hst hrx HV HX
  go_wp2_with (first
    | (go_at_call 18; (with_reducible refine CV.out.mono ?_); rintro e w' ⟨rfl, rfl⟩)
    | (go_at_call 9; (with_reducible refine (works_any _).mono ?_); rintro e w' ⟨rfl, hB⟩))
  go_ret
  exact ⟨rfl, HBL.out.trans (hB.mono HBL.out.size)⟩

/-! ### THE ROW's STEP: WRITTEN OUT: LEAVE IT -/
set_option maxRecDepth 100000 in
theorem lifted (os : Os) (started : os.Started) (H : Type) (enc : TypeId × Value → H) :
    ReturnsInHanded {} Try.checked os 5 .any (Rows.rtoSteadySpec.pre6 enc Try.prog Try.f5 Rows.rtoSteadyRow.domain false) (Rows.rtoSteadySpec.post enc Try.prog Try.f5 false true false false) := by
  refine returnsInHanded_of_change (C := Try.checked) own started (by kernel_rfl) Try.func5
    (ChangeSpec.witness6 (enc := enc) (C := Try.checked) false ⟨#[], #[.int .i64 0, .int .i64 0, .int .i64 0, .int .i64 0], []⟩ 8 (by kernel_rfl) (by kernel_rfl) (by kernel_rfl) (by kernel_rfl)) ?_
  intro W base args ds gs before hval0 hW hcnd _
  have hval : ∀ (j : Nat) t v, Try.f5.params[j]? = some t → args[j]? = some v → Value.okWide Try.prog W .any base t v := hval0
  have hW' := hW
  obtain ⟨p, q, hA0, hV, rfl, hfz, hnd⟩ := hW
  have hA : DataW.TrodAll enc Try.prog W 0 (fun _ => true) true Try.f5.params.toList args.toList ds p := hA0
  rw [Try.params5] at hA hval
  obtain ⟨v0, vs0, d0, ds0, p0, q0, hargs, rfl, rfl, h0, r0⟩ := trodAll_cons hA
  obtain ⟨v1, vs1, d1, ds1, p1, q1, rfl, rfl, rfl, h1, r1⟩ := trodAll_cons r0
  obtain ⟨v2, vs2, d2, ds2, p2, q2, rfl, rfl, rfl, h2, r2⟩ := trodAll_cons r1
  obtain ⟨v3, vs3, d3, ds3, p3, q3, rfl, rfl, rfl, h3, r3⟩ := trodAll_cons r2
  obtain ⟨rfl, rfl, rfl⟩ := trodAll_nil r3
  obtain rfl : args = #[v0, v1, v2, v3] := by cases args; simp_all
  obtain ⟨rfl, rfl⟩ := trodVars_none hV
  obtain ⟨a0, rfl, rfl, rfl, w0⟩ := open_int Try.underlying2 (hval 0 2 v0 rfl rfl) h0
  obtain ⟨a1, rfl, rfl, rfl, w1⟩ := open_int Try.underlying2 (hval 1 2 v1 rfl rfl) h1
  obtain ⟨a2, rfl, rfl, rfl, w2⟩ := open_int Try.underlying2 (hval 2 2 v2 rfl rfl) h2
  obtain ⟨a3, rfl, rfl, rfl, w3⟩ := open_int Try.underlying2 (hval 3 2 v3 rfl rfl) h3
  clear hA0 hval0
  simp only [List.append_nil] at hW'
  refine (walk a0 a1 a2 a3 w0 w1 w2 w3 W).mono fun e W' ⟨he, bel⟩ => ?_
  subst he
  exact ⟨_, rfl, _, _, _, [], [], [], hW', (trodAll_cons_mk (shut_bool Try.underlying4 _) trodAll_mk0), (trodAll_cons_mk (shut_int Try.underlying2 w0) (trodAll_cons_mk (shut_int Try.underlying2 w1) (trodAll_cons_mk (shut_int Try.underlying2 w2) (trodAll_cons_mk (shut_int Try.underlying2 w3) trodAll_mk0)))), rfl, bel.frame _, fun h => by cases h⟩

theorem over : Rows.rtoSteadyRow.holds Try.pinned (OpenSpec.ofChange Rows.rtoSteadySpec) :=
  OpenClaim.holds_of_wide 5 Try.f5 rfl rfl rfl rfl rfl rfl rfl ⟨rfl, rfl, rfl, rfl, rfl⟩ rfl rfl rfl rfl rfl (by kernel_rfl) Try.func5 (by kernel_rfl)
    (of_decide_eq_true (by kernel_rfl)) (by unfold Func.isWrapper; first | (rw [if_pos (by decide +kernel)]; kernel_rfl) | (rw [if_neg (by decide +kernel)]; exact ⟨rfl, rfl⟩))
    (fun os started H enc _ => lifted os started H enc)

/-- ████ THE STATEMENT ████ -/
theorem proved : Rows.RtoSteadySaid :=
  over
#print axioms proved
end Go.Proofs.Ytakbnmongagmfaa.rtoSteady

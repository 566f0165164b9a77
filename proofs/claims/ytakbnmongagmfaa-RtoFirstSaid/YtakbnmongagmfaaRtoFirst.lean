/- Proved: 'Rows.RtoFirstSaid': for every input fairleadlaw12.RtoFirst returns true, and each argument reads afterwards as before. Conditions: none beyond the given row's own. (The frame round the walk was written by the kit's proof-skeleton.mjs.) -/
import Derived.Test.YtakbnmongagmfaaRows
import Derived.WalkKit
import Derived.ProofKit
import Derived.OpenShut
import Derived.ChangeOld
import Derived.Below
import Derived.Test.YtakbnmongagmfaaWorks
import Derived.ShutString
namespace Go.Proofs.Ytakbnmongagmfaa.rtoFirst
open Go.ChangeShapes Go.WideShapes Go.ChangeAt Go.RowKit
open Go.ChangeMaps (open_string shut_string)
set_option linter.unusedVariables false      -- a walk need not use every 'w<i>' (that an integer argument fits its kind)
open M
attribute [local go_sem] max_i64 min_i64

theorem own : ownKnob Try.prog.godebug = none := by kernel_rfl

/-! ### STEP 1: THE WALK: the Go text returns true. 'Below w.heap.size w w'': the world has at most new blocks (Derived/RowKit3.lean). Part the cases AHEAD of 'go_enter' where a test parts the walk; take each callee by a contract of your own. -/
set_option maxHeartbeats 1000000 in
theorem walk (a0 : Int) (a1 : Int) (a2 : Int) (a3 : Int) (a4 : Int) (w0 : (Lit.int .i64 a0).wf = true) (w1 : (Lit.int .i64 a1).wf = true) (w2 : (Lit.int .i64 a2).wf = true) (w3 : (Lit.int .i64 a3).wf = true) (w4 : (Lit.int .u8 a4).wf = true) (w : World) :
    Calls Try.prog 7 #[.int .i64 a0, .int .i64 a1, .int .i64 a2, .int .i64 a3, .int .u8 a4] w fun e w' => e = .returned (.bool true) ∧ Below w.heap.size w w' := by
  have wb := wf_i64 w3
  have w8 := wf_u8 w4
  clear w0 w1 w2 w3 w4
  by_cases hg : Fits3 a0 a1 a2
  case neg =>
    go_enter Try.func7, Try.ntmps7
    go_wp2_with (first
      | (go_at_call 10; (with_reducible refine (new_bad _ _ _ _ hg).mono ?_); rintro e w' ⟨rfl, rfl⟩)
      | (go_at_call 9; (with_reducible refine (works_any _).mono ?_); rintro e w' ⟨rfl, hB⟩))
    go_ret
    exact ⟨rfl, hB⟩
  have HG := Lib.hid hg
  have hlm : a1 ≤ a2 := by obtain ⟨_, _, _, _⟩ := hg; omega
  clear hg
  go_enter Try.func7, Try.ntmps7
  go_wp2_with fail
  (go_at_call 10; (with_reducible refine (new_good _ _ _ _ HG.out).mono ?_); rintro e w1 ⟨rfl, h1⟩)
  have HH : Hid (Below w.heap.size w w1 ∧ ∃ r : R, r.Ok ∧ r.any = false ∧ r.s = 0 ∧ r.l = a1 ∧ r.m = a2 ∧ Held 45 w1 w.heap.size r) := by
    rw [h1.out]
    exact ⟨(Below.refl _ _).alloc (Nat.le_refl _) _, made a0 a1 a2, HG.out.ok, rfl, rfl, rfl, rfl, Held.new _ _ _⟩
  clear h1
  go_wp2_with fail
  obtain ⟨wo, hwo⟩ : ∃ wo : World, wo = w1 := ⟨_, rfl⟩
  subst hwo
  go_loopw [13] (fun i wr => ∃ k : Nat, i = .int .i64 k ∧ (k : Int) ≤ a4 ∧ Hid (Below w.heap.size w wr ∧ ∃ r : R, r.Ok ∧ r.any = false ∧ r.s = 0 ∧ r.l = a1 ∧ r.m = a2 ∧ Held 45 wr w.heap.size r)) (fun i _ => a4.toNat - (intOf i).toNat)
  case atStart => exact ⟨0, rfl, by omega, HH⟩
  case round =>
  clear HH
  obtain ⟨k, rfl, hk, HH⟩ := hrel
  by_cases hlt : (k : Int) < a4
  · obtain ⟨hbl, r, hok, hany, hs, hl, hm, hh⟩ := HH.out
    have C := Lib.hid (back_any _ r wr hh hok)
    have HS : Hid (∀ w2, (Held 45 w2 w.heap.size r.back ∧ wr.grownBy w2 (some w.heap.size)) → Hid (Below w.heap.size w w2 ∧ ∃ r : R, r.Ok ∧ r.any = false ∧ r.s = 0 ∧ r.l = a1 ∧ r.m = a2 ∧ Held 45 w2 w.heap.size r)) := by
      rintro w2 ⟨h1, h2⟩
      exact ⟨hbl.grown h2 hbl.size (fun k hk => by cases hk; exact Nat.le_refl _), _, hok.back, hany, hs, hl, hm, h1⟩
    clear hbl hok hany hs hl hm hh HH
    go_wp2_with (go_at_call 12; (with_reducible refine C.out.mono ?_); rintro e w2 ⟨rfl, h1⟩)
    have HN := HS.out w2 h1.out
    go_roundw
    case rel => exact ⟨k + 1, by go_num, by omega, HN⟩
    case measure => (simp [intOf] <;> omega)
  obtain ⟨hbl, r, hok, hany, hs, hl, hm, hh⟩ := HH.out
  subst hl hm
  have HBL := Lib.hid hbl
  have HR := Lib.hid hh
  have HO := Lib.hid hok
  obtain ⟨x, hx⟩ : ∃ x, r.x = x := ⟨_, rfl⟩
  have CV : Hid (Calls Try.prog 18 #[.pointer (some ⟨w.heap.size, 0, none⟩)] wr fun e w' => e = .returned (.int .i64 x) ∧ wr = w') := by rw [Hid, ← hx]; exact value_any _ r wr hh
  have CS : Hid (Calls Try.prog 16 #[.pointer (some ⟨w.heap.size, 0, none⟩)] wr fun e w' => e = .returned (.tuple #[.int .i64 0, .bool false]) ∧ wr = w') := by
    have h := smooth_any _ r wr hh hok
    rw [show smoothed r = 0 by simp [smoothed, hany], hany] at h
    exact h
  by_cases ht : a3 < 0
  · clear hbl hok hany hs hh HH hx hk
    go_wp2_with (first
      | (go_at_call 18; (with_reducible refine CV.out.mono ?_); rintro e w' ⟨rfl, rfl⟩)
      | (go_at_call 14; (with_reducible refine (sample_neg _ _ _ ht).mono ?_); rintro e w' ⟨rfl, rfl⟩)
      | (go_at_call 16; (with_reducible refine CS.out.mono ?_); rintro e w' ⟨rfl, rfl⟩)
      | (go_at_call 9; (with_reducible refine (works_any _).mono ?_); rintro e w' ⟨rfl, hB⟩))
    go_ret
    exact ⟨rfl, HBL.out.trans (hB.mono HBL.out.size)⟩
  · have ht0 : 0 ≤ a3 := by omega
    have hfr := samp_fresh hany a3
    obtain ⟨T, hT⟩ : ∃ T, mn a3 1048576 = T := ⟨_, rfl⟩
    have hT1 : 0 ≤ T ∧ T ≤ 1048576 := by rw [← hT]; exact clip ht0
    have hm1 := mx_le 1 (2 * T)
    rw [hT] at hfr
    obtain ⟨y, hy⟩ : ∃ y, mn (mx (T + mx 1 (2 * T)) r.l) r.m = y := ⟨_, rfl⟩
    have HF : Hid ((r.samp a3).s / 8 = T ∧ (r.samp a3).x = y) := ⟨hfr.1, by rw [hfr.2]; exact hy⟩
    clear hfr hbl hok hany hs hh HH hx hk
    go_wp2_with fail
    (go_at_call 18; (with_reducible refine CV.out.mono ?_); rintro e w' ⟨rfl, rfl⟩)
    go_wp2_with fail
    (go_at_call 14; (with_reducible refine (sample_any _ r a3 wr HR.out HO.out ht0).mono ?_); rintro e w2 ⟨rfl, h1⟩)
    have CV2 : Hid (Calls Try.prog 18 #[.pointer (some ⟨w.heap.size, 0, none⟩)] w2 fun e w' => e = .returned (.int .i64 y) ∧ w2 = w') := by rw [Hid, ← HF.out.2]; exact value_any _ _ w2 h1.out.1
    have CS2 : Hid (Calls Try.prog 16 #[.pointer (some ⟨w.heap.size, 0, none⟩)] w2 fun e w' => e = .returned (.tuple #[.int .i64 T, .bool true]) ∧ w2 = w') := by
      have h := smooth_any _ _ w2 h1.out.1 (HO.out.samp ht0)
      rw [show smoothed (r.samp a3) = T from HF.out.1] at h
      exact h
    replace HBL := Lib.hid (HBL.out.grown h1.out.2 HBL.out.size (fun k hk => by cases hk; exact Nat.le_refl _))
    clear h1 CV CS
    go_wp2_with (first
      | (go_at_call 18; (with_reducible refine CV2.out.mono ?_); rintro e w' ⟨rfl, rfl⟩)
      | (go_at_call 16; (with_reducible refine CS2.out.mono ?_); rintro e w' ⟨rfl, rfl⟩)
      | (go_at_call 9; (with_reducible refine (works_any _).mono ?_); rintro e w' ⟨rfl, hB⟩))
    go_ret
    exact ⟨rfl, HBL.out.trans (hB.mono HBL.out.size)⟩

/-! ### THE ROW's STEP: WRITTEN OUT: LEAVE IT -/
set_option maxRecDepth 100000 in
theorem lifted (os : Os) (started : os.Started) (H : Type) (enc : TypeId × Value → H) :
    ReturnsInHanded {} Try.checked os 7 .any (Rows.rtoFirstSpec.pre6 enc Try.prog Try.f7 Rows.rtoFirstRow.domain false) (Rows.rtoFirstSpec.post enc Try.prog Try.f7 false true false false) := by
  refine returnsInHanded_of_change (C := Try.checked) own started (by kernel_rfl) Try.func7
    (ChangeSpec.witness6 (enc := enc) (C := Try.checked) false ⟨#[], #[.int .i64 0, .int .i64 0, .int .i64 0, .int .i64 0, .int .u8 0], []⟩ 8 (by kernel_rfl) (by kernel_rfl) (by kernel_rfl) (by kernel_rfl)) ?_
  intro W base args ds gs before hval0 hW hcnd _
  have hval : ∀ (j : Nat) t v, Try.f7.params[j]? = some t → args[j]? = some v → Value.okWide Try.prog W .any base t v := hval0
  have hW' := hW
  obtain ⟨p, q, hA0, hV, rfl, hfz, hnd⟩ := hW
  have hA : DataW.TrodAll enc Try.prog W 0 (fun _ => true) true Try.f7.params.toList args.toList ds p := hA0
  rw [Try.params7] at hA hval
  obtain ⟨v0, vs0, d0, ds0, p0, q0, hargs, rfl, rfl, h0, r0⟩ := trodAll_cons hA
  obtain ⟨v1, vs1, d1, ds1, p1, q1, rfl, rfl, rfl, h1, r1⟩ := trodAll_cons r0
  obtain ⟨v2, vs2, d2, ds2, p2, q2, rfl, rfl, rfl, h2, r2⟩ := trodAll_cons r1
  obtain ⟨v3, vs3, d3, ds3, p3, q3, rfl, rfl, rfl, h3, r3⟩ := trodAll_cons r2
  obtain ⟨v4, vs4, d4, ds4, p4, q4, rfl, rfl, rfl, h4, r4⟩ := trodAll_cons r3
  obtain ⟨rfl, rfl, rfl⟩ := trodAll_nil r4
  obtain rfl : args = #[v0, v1, v2, v3, v4] := by cases args; simp_all
  obtain ⟨rfl, rfl⟩ := trodVars_none hV
  obtain ⟨a0, rfl, rfl, rfl, w0⟩ := open_int Try.underlying2 (hval 0 2 v0 rfl rfl) h0
  obtain ⟨a1, rfl, rfl, rfl, w1⟩ := open_int Try.underlying2 (hval 1 2 v1 rfl rfl) h1
  obtain ⟨a2, rfl, rfl, rfl, w2⟩ := open_int Try.underlying2 (hval 2 2 v2 rfl rfl) h2
  obtain ⟨a3, rfl, rfl, rfl, w3⟩ := open_int Try.underlying2 (hval 3 2 v3 rfl rfl) h3
  obtain ⟨a4, rfl, rfl, rfl, w4⟩ := open_int Try.underlying5 (hval 4 5 v4 rfl rfl) h4
  clear hA0 hval0
  simp only [List.append_nil] at hW'
  refine (walk a0 a1 a2 a3 a4 w0 w1 w2 w3 w4 W).mono fun e W' ⟨he, bel⟩ => ?_
  subst he
  exact ⟨_, rfl, _, _, _, [], [], [], hW', (trodAll_cons_mk (shut_bool Try.underlying4 _) trodAll_mk0), (trodAll_cons_mk (shut_int Try.underlying2 w0) (trodAll_cons_mk (shut_int Try.underlying2 w1) (trodAll_cons_mk (shut_int Try.underlying2 w2) (trodAll_cons_mk (shut_int Try.underlying2 w3) (trodAll_cons_mk (shut_int Try.underlying5 w4) trodAll_mk0))))), rfl, bel.frame _, fun h => by cases h⟩

theorem over : Rows.rtoFirstRow.holds Try.pinned (OpenSpec.ofChange Rows.rtoFirstSpec) :=
  OpenClaim.holds_of_wide 7 Try.f7 rfl rfl rfl rfl rfl rfl rfl ⟨rfl, rfl, rfl, rfl, rfl⟩ rfl rfl rfl rfl rfl (by kernel_rfl) Try.func7 (by kernel_rfl)
    (of_decide_eq_true (by kernel_rfl)) (by unfold Func.isWrapper; first | (rw [if_pos (by decide +kernel)]; kernel_rfl) | (rw [if_neg (by decide +kernel)]; exact ⟨rfl, rfl⟩))
    (fun os started H enc _ => lifted os started H enc)

/-- ████ THE STATEMENT ████ -/
theorem proved : Rows.RtoFirstSaid :=
  over
#print axioms proved
end Go.Proofs.Ytakbnmongagmfaa.rtoFirst

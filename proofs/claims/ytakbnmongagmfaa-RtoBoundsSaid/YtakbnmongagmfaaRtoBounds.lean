/- Proved: 'Rows.RtoBoundsSaid': for every input fairleadlaw12.RtoBounds returns true, and each argument reads afterwards as before. Conditions: none beyond the given row's own. (The frame round the walk was written by the kit's proof-skeleton.mjs.) -/
import Derived.Test.YtakbnmongagmfaaRows
import Derived.WalkKit
import Derived.ProofKit
import Derived.OpenShut
import Derived.ShutString
import Derived.ChangeOld
import Derived.Below
import Derived.Test.YtakbnmongagmfaaOps
import Derived.Test.YtakbnmongagmfaaWorks
namespace Go.Proofs.Ytakbnmongagmfaa.rtoBounds
open Go.ChangeShapes Go.WideShapes Go.ChangeAt Go.RowKit
open Go.ChangeMaps (open_string shut_string)
open M
set_option linter.unusedVariables false
attribute [local go_sem] max_i64 min_i64

theorem own : ownKnob Try.prog.godebug = none := by kernel_rfl
theorem laidOut : laidOutB Try.prog = true := by kernel_rfl

/-! ### STEP 1: THE WALK: the Go text returns true, AND WRITES NOTHING THAT WAS THERE: 'Below w.heap.size w w'' (Derived/Below.lean: '.refl', '.alloc', '.drew', '.setCell' at a new block, '.trans'). Open each 'IsRow' by 'rcases' AHEAD of 'go_enter'; part every test ahead of the walk. -/
set_option maxHeartbeats 2000000 in
set_option maxRecDepth 100000 in
theorem walk (a0 : Int) (a1 : Int) (a2 : Int) (a3 : Option Addr) (cap3 : Nat) (L : List (Bool × Int)) (w : World) (w0 : (Lit.int .i64 a0).wf = true) (w1 : (Lit.int .i64 a1).wf = true) (w2 : (Lit.int .i64 a2).wf = true) (hr : OpRow w a3 L) (hL : OpsFit L) :
    Calls Try.prog 4 #[.int .i64 a0, .int .i64 a1, .int .i64 a2, .slice a3 L.length cap3] w fun e w' => e = .returned (.bool true) ∧ Below w.heap.size w w' := by
  clear w0 w1 w2
  have HR := Lib.hid hr
  have HL := Lib.hid hL
  clear hr hL
  by_cases hg : Fits3 a0 a1 a2
  case neg =>
    go_enter Try.func4, Try.ntmps4
    go_wp2_with (first
      | (go_at_call 10; (with_reducible refine (new_bad _ _ _ _ hg).mono ?_); rintro e w' ⟨rfl, rfl⟩)
      | (go_at_call 9; (with_reducible refine (works_any _).mono ?_); rintro e w' ⟨rfl, hB⟩))
    go_ret
    exact ⟨rfl, hB⟩
  have HG := Lib.hid hg
  have hlm : 1 ≤ a1 ∧ a1 ≤ a2 ∧ a2 ≤ 1048576 := by obtain ⟨_, _, _, _⟩ := hg; omega
  clear hg
  go_enter Try.func4, Try.ntmps4
  go_wp2_with fail
  (go_at_call 10; (with_reducible refine (new_good _ _ _ _ HG.out).mono ?_); rintro e w1 ⟨rfl, h1⟩)
  have HH : Hid (Below w.heap.size w w1 ∧ ∃ r : R, (r.Ok ∧ r.l = a1 ∧ r.m = a2) ∧ Held 45 w1 w.heap.size r) := by
    rw [h1.out]
    exact ⟨(Below.refl _ _).alloc (Nat.le_refl _) _, made a0 a1 a2, ⟨HG.out.ok, rfl, rfl⟩, Held.new _ _ _⟩
  clear h1
  by_cases hbig : 500 < L.length
  · go_wp2_with (go_at_call 9; (with_reducible refine (works_any _).mono ?_); rintro e w' ⟨rfl, hB⟩)
    go_ret
    exact ⟨rfl, HH.out.1.trans (hB.mono HH.out.1.size)⟩
  go_wp2_with fail
  obtain ⟨wo, hwo⟩ : ∃ wo : World, wo = w1 := ⟨_, rfl⟩
  subst hwo
  go_loopw [11] (fun i wr => ∃ k : Nat, i = .int .i64 k ∧ k ≤ L.length ∧ Hid (Below w.heap.size w wr ∧ ∃ r : R, (r.Ok ∧ r.l = a1 ∧ r.m = a2) ∧ Held 45 wr w.heap.size r)) (fun i _ => L.length - (intOf i).toNat)
  case atStart => exact ⟨0, rfl, by omega, HH⟩
  case round =>
  clear HH
  obtain ⟨k, rfl, hk, HH⟩ := hrel
  by_cases hlt : k < L.length
  · obtain ⟨bb, off, rfl, hc1, hc2⟩ := HR.out.at_ hlt
    have hbb : bb < w.heap.size := World.block_lt_of_cell? w _ hc1
    have HC2 := Lib.hid hc2
    rw [← HH.out.1.cell (p := ⟨bb, _, none⟩) hbb] at hc1 hc2
    have hcb := HL.out k hlt
    obtain ⟨bk, hbk⟩ : ∃ bk, (L.getD k default).1 = bk := ⟨_, rfl⟩
    obtain ⟨c, hcc⟩ : ∃ c, (L.getD k default).2 = c := ⟨_, rfl⟩
    rw [hbk] at hc1
    rw [hcc] at hc2 hcb HC2
    clear hbk hcc
    have hlt' : (k : Int) < L.length := by omega
    obtain ⟨hbl, r, ⟨hok, hrl, hrm⟩, hhr⟩ := HH.out
    have hlt2 : r.x ≤ a2 ∧ a1 ≤ r.x := by obtain ⟨_, _, _, _⟩ := hok; omega
    obtain ⟨x, hx⟩ : ∃ x, r.x = x := ⟨_, rfl⟩
    rw [hx] at hlt2
    have CV : Hid (Calls Try.prog 18 #[.pointer (some ⟨w.heap.size, 0, none⟩)] wr fun e w' => e = .returned (.int .i64 x) ∧ wr = w') := by rw [Hid, ← hx]; exact value_any _ r wr hhr
    cases bk with
    | true =>
      obtain ⟨y, hy⟩ : ∃ y, r.back.x = y := ⟨_, rfl⟩
      have hyy : x ≤ y ∧ y ≤ 2 * x ∧ (y = 2 * x ∨ y = a2) ∧ y ≤ a2 := by
        have h := mn_le (2 * r.x) r.m
        have e : y = mn (2 * r.x) r.m := hy.symm
        rw [← e, hx, hrm] at h
        omega
      obtain ⟨hy1, hy2, hy3, hy4⟩ := hyy
      have C := Lib.hid (back_any _ r wr hhr hok)
      have HS : Hid (∀ w2, (Held 45 w2 w.heap.size r.back ∧ wr.grownBy w2 (some w.heap.size)) →
          Calls Try.prog 18 #[.pointer (some ⟨w.heap.size, 0, none⟩)] w2 (fun e w' => e = .returned (.int .i64 y) ∧ w2 = w') ∧
          Hid (Below w.heap.size w w2 ∧ ∃ r : R, (r.Ok ∧ r.l = a1 ∧ r.m = a2) ∧ Held 45 w2 w.heap.size r)) := by
        rintro w2 ⟨h1, h2⟩
        refine ⟨?_, hbl.grown h2 hbl.size (fun k hk => by cases hk; exact Nat.le_refl _), _, ⟨hok.back, hrl, hrm⟩, h1⟩
        rw [← hy]; exact value_any _ _ w2 h1
      clear hbl hok hrl hrm hhr HH hx hy
      go_wp2_with fail
      (go_at_call 18; (with_reducible refine CV.out.mono ?_); rintro e w' ⟨rfl, rfl⟩)
      go_wp2_with fail
      (go_at_call 12; (with_reducible refine C.out.mono ?_); rintro e w2 ⟨rfl, h1⟩)
      obtain ⟨cv, HN⟩ := HS.out w2 h1.out
      have CV2 := Lib.hid cv
      clear cv h1 HS C CV
      by_cases h2x : y = 2 * x
      · have g1 : (y != 2 * x) = false := by simp [h2x]
        clear hy3 h2x
        go_wp2_with (go_at_call 18; (with_reducible refine CV2.out.mono ?_); rintro e w' ⟨rfl, rfl⟩)
        go_roundw
        case rel => exact ⟨k + 1, by go_num, by omega, HN⟩
        case measure => (simp [intOf] <;> omega)
      · have g1 : (y != 2 * x) = true := by simp [h2x]
        have g2 : (y != a2) = false := by simp; omega
        clear hy3 h2x
        go_wp2_with (go_at_call 18; (with_reducible refine CV2.out.mono ?_); rintro e w' ⟨rfl, rfl⟩)
        go_roundw
        case rel => exact ⟨k + 1, by go_num, by omega, HN⟩
        case measure => (simp [intOf] <;> omega)
    | false =>
      by_cases hneg : c < 0
      · have CS := Lib.hid (smooth_any _ r wr hhr hok)
        obtain ⟨q, hq⟩ : ∃ q, smoothed r = q := ⟨_, rfl⟩
        obtain ⟨an, han⟩ : ∃ an, r.any = an := ⟨_, rfl⟩
        rw [hq, han] at CS
        clear hbl hok hrl hrm hhr hx hq han
        go_wp2_with (first
          | (go_at_call 18; (with_reducible refine CV.out.mono ?_); rintro e w' ⟨rfl, rfl⟩)
          | (go_at_call 14; (with_reducible refine (sample_neg _ _ _ hneg).mono ?_); rintro e w' ⟨rfl, rfl⟩)
          | (go_at_call 16; (with_reducible refine CS.out.mono ?_); rintro e w' ⟨rfl, rfl⟩))
        go_roundw
        case rel => exact ⟨k + 1, by go_num, by omega, HH⟩
        case measure => (simp [intOf] <;> omega)
      · have hc0 : 0 ≤ c := by omega
        have hok1 := hok.samp hc0
        obtain ⟨q, hq⟩ : ∃ q, (r.samp c).s / 8 = q := ⟨_, rfl⟩
        obtain ⟨y, hy⟩ : ∃ y, (r.samp c).x = y := ⟨_, rfl⟩
        have hqy : (0 ≤ q ∧ q ≤ 1048576) ∧ (a1 ≤ y ∧ y ≤ a2) ∧ mn q a2 ≤ y := by
          have h1 := hok.nextS (clip hc0)
          have e1 : (r.samp c).s = r.nextS (mn c 1048576) := rfl
          have e2 : (r.samp c).x = btw (r.nextS (mn c 1048576) / 8 + mx 1 (r.nextV (mn c 1048576))) a1 a2 := by rw [← hrl, ← hrm]; rfl
          have h3 := btw_in (x := r.nextS (mn c 1048576) / 8 + mx 1 (r.nextV (mn c 1048576))) hlm.2.1
          have h4 := mx_le 1 (r.nextV (mn c 1048576))
          rw [e1] at hq
          rw [e2] at hy
          rw [hq] at hy h3
          rw [hy] at h3
          have h5 := mx_le (q + mx 1 (r.nextV (mn c 1048576))) a1
          have h6 := mn_le (mx (q + mx 1 (r.nextV (mn c 1048576))) a1) a2
          have h7 := mn_le q a2
          have e3 : mn (mx (q + mx 1 (r.nextV (mn c 1048576))) a1) a2 = y := hy
          omega
        obtain ⟨⟨hq1, hq2⟩, ⟨hy1, hy2⟩, hqm⟩ := hqy
        have C := Lib.hid (sample_any _ r c wr hhr hok hc0)
        have HS : Hid (∀ w2, (Held 45 w2 w.heap.size (r.samp c) ∧ wr.grownBy w2 (some w.heap.size)) →
            Calls Try.prog 18 #[.pointer (some ⟨w.heap.size, 0, none⟩)] w2 (fun e w' => e = .returned (.int .i64 y) ∧ w2 = w') ∧
            Calls Try.prog 16 #[.pointer (some ⟨w.heap.size, 0, none⟩)] w2 (fun e w' => e = .returned (.tuple #[.int .i64 q, .bool true]) ∧ w2 = w') ∧ w2.cell? ⟨bb, off + k * 2 + 1, none⟩ = some (.int .i64 c) ∧
            Hid (Below w.heap.size w w2 ∧ ∃ r : R, (r.Ok ∧ r.l = a1 ∧ r.m = a2) ∧ Held 45 w2 w.heap.size r)) := by
          rintro w2 ⟨h1, h2⟩
          have hbl2 := hbl.grown h2 hbl.size (fun k hk => by cases hk; exact Nat.le_refl _)
          refine ⟨?_, ?_, by rw [hbl2.cell (p := ⟨bb, _, none⟩) hbb]; exact HC2.out, hbl2, _, ⟨hok1, hrl, hrm⟩, h1⟩
          · rw [← hy]; exact value_any _ _ w2 h1
          · have h := smooth_any _ _ w2 h1 hok1
            rw [show smoothed (r.samp c) = q from hq] at h
            exact h
        clear hbl hok hrl hrm hhr HH hx hy hq hok1
        go_wp2_with fail
        (go_at_call 18; (with_reducible refine CV.out.mono ?_); rintro e w' ⟨rfl, rfl⟩)
        go_wp2_with fail
        (go_at_call 14; (with_reducible refine C.out.mono ?_); rintro e w2 ⟨rfl, h1⟩)
        obtain ⟨cv, cs, hc3, HN⟩ := HS.out w2 h1.out
        have CV2 := Lib.hid cv
        have CS2 := Lib.hid cs
        clear cv cs h1 HS C CV
        go_wp2_with (first
          | (go_at_call 18; (with_reducible refine CV2.out.mono ?_); rintro e w' ⟨rfl, rfl⟩)
          | (go_at_call 16; (with_reducible refine CS2.out.mono ?_); rintro e w' ⟨rfl, rfl⟩))
        go_roundw
        case rel => exact ⟨k + 1, by go_num, by omega, HN⟩
        case measure => (simp [intOf] <;> omega)
  go_wp2_with (go_at_call 9; (with_reducible refine (works_any _).mono ?_); rintro e w' ⟨rfl, hB⟩)
  go_ret
  exact ⟨rfl, HH.out.1.trans (hB.mono HH.out.1.size)⟩

/-! ### THE ROW's STEP: WRITTEN OUT: LEAVE IT -/
set_option maxRecDepth 100000 in
theorem lifted (os : Os) (started : os.Started) (H : Type) (enc : TypeId × Value → H) :
    ReturnsInHanded {} Try.checked os 4 .any (Rows.rtoBoundsSpec.pre6 enc Try.prog Try.f4 Rows.rtoBoundsRow.domain false) (Rows.rtoBoundsSpec.post enc Try.prog Try.f4 false true false false) := by
  refine returnsInHanded_of_change (C := Try.checked) own started (by kernel_rfl) Try.func4
    (ChangeSpec.witness6 (enc := enc) (C := Try.checked) false ⟨#[], #[.int .i64 0, .int .i64 0, .int .i64 0, .slice none 0 0], []⟩ 8 (by kernel_rfl) (by kernel_rfl) (by kernel_rfl) (by kernel_rfl)) ?_
  intro W base args ds gs before hval0 hW hcnd _
  have hval : ∀ (j : Nat) t v, Try.f4.params[j]? = some t → args[j]? = some v → Value.okWide Try.prog W .any base t v := hval0
  have hW' := hW
  obtain ⟨p, q, hA0, hV, rfl, hfz, hnd⟩ := hW
  have hA : DataW.TrodAll enc Try.prog W 0 (fun _ => true) true Try.f4.params.toList args.toList ds p := hA0
  rw [Try.params4] at hA hval
  obtain ⟨v0, vs0, d0, ds0, p0, q0, hargs, rfl, rfl, h0, r0⟩ := trodAll_cons hA
  obtain ⟨v1, vs1, d1, ds1, p1, q1, rfl, rfl, rfl, h1, r1⟩ := trodAll_cons r0
  obtain ⟨v2, vs2, d2, ds2, p2, q2, rfl, rfl, rfl, h2, r2⟩ := trodAll_cons r1
  obtain ⟨v3, vs3, d3, ds3, p3, q3, rfl, rfl, rfl, h3, r3⟩ := trodAll_cons r2
  obtain ⟨rfl, rfl, rfl⟩ := trodAll_nil r3
  obtain rfl : args = #[v0, v1, v2, v3] := by cases args; simp_all
  obtain ⟨rfl, rfl⟩ := trodVars_none hV
  obtain ⟨a0, rfl, rfl, rfl, w0⟩ := open_int Try.underlying2 (hval 0 2 v0 rfl rfl) h0
  obtain ⟨a1, rfl, rfl, rfl, w1⟩ := open_int Try.underlying2 (hval 1 2 v1 rfl rfl) h1
  obtain ⟨a2, rfl, rfl, rfl, w2⟩ := open_int Try.underlying2 (hval 2 2 v2 rfl rfl) h2
  obtain ⟨a3, len3, cap3, rfl⟩ := okWide_slice Try.underlying22 (hval 3 22 v3 rfl rfl)
  have k3 := h3
  have lt3 : ∀ x ∈ p3, x.block < W.heap.size := by obtain ⟨m, hm⟩ := k3; exact DataW.trod_lt m _ _ _ hm
  obtain ⟨L, rfl, hr3, hL3⟩ : ∃ L : List (Bool × Int), L.length = len3 ∧ OpRow W a3 L ∧ OpsFit L := by
    obtain ⟨fuel, hf⟩ := h3
    exact ops_of (by simpa [Value.cells] using hf)
  clear hA0 hval0
  refine (walk a0 a1 a2 a3 cap3 L W w0 w1 w2 hr3 hL3).mono fun e W' ⟨he, bel⟩ => ?_
  subst he
  exact ⟨_, rfl, _, _, _, [], _, [], hW', trodAll_mk1 (shut_bool Try.underlying4 _), (trodAll_cons_mk (shut_int Try.underlying2 w0) (trodAll_cons_mk (shut_int Try.underlying2 w1) (trodAll_cons_mk (shut_int Try.underlying2 w2) (trodAll_cons_mk (Below.trod laidOut (by kernel_rfl) (of_decide_eq_true (by kernel_rfl)) k3 bel lt3) trodAll_mk0)))), rfl, bel.frame _, fun h => by cases h⟩

theorem over : Rows.rtoBoundsRow.holds Try.pinned (OpenSpec.ofChange Rows.rtoBoundsSpec) :=
  OpenClaim.holds_of_wide 4 Try.f4 rfl rfl rfl rfl rfl rfl rfl ⟨rfl, rfl, rfl, rfl, rfl⟩ rfl rfl rfl rfl rfl (by kernel_rfl) Try.func4 (by kernel_rfl)
    (of_decide_eq_true (by kernel_rfl)) (by unfold Func.isWrapper; first | (rw [if_pos (by decide +kernel)]; kernel_rfl) | (rw [if_neg (by decide +kernel)]; exact ⟨rfl, rfl⟩))
    (fun os started H enc _ => lifted os started H enc)

/-- ████ THE STATEMENT ████ -/
theorem proved : Rows.RtoBoundsSaid := over
#print axioms proved
end Go.Proofs.Ytakbnmongagmfaa.rtoBounds

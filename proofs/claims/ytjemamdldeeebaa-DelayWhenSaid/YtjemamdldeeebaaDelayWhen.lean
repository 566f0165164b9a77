/- Proved: 'Rows.DelayWhenSaid': for every input fairleadlaw16.DelayWhen returns true, and each argument reads afterwards as before. Conditions: none beyond the given row's own. (The frame round the walk was written by the kit's proof-skeleton.mjs.) -/
import Derived.Test.YtjemamdldeeebaaRows
import Derived.WalkKit
import Derived.ProofKit
import Derived.OpenShut
import Derived.ShutString
import Derived.ChangeOld
import Derived.Below
import Derived.Test.YtjemamdldeeebaaOps
import Derived.Test.YtjemamdldeeebaaWalkC
namespace Go.Proofs.Ytjemamdldeeebaa.delayWhen
open Go.ChangeShapes Go.WideShapes Go.ChangeAt Go.RowKit
open Go.ChangeMaps (open_string shut_string)
set_option linter.unusedVariables false
open M
attribute [local go_sem] max_i64 min_i64

theorem own : ownKnob Try.prog.godebug = none := by kernel_rfl
theorem laidOut : laidOutB Try.prog = true := by kernel_rfl

/-! ### STEP 1: THE WALK: the Go text returns true, AND WRITES NOTHING THAT WAS THERE: 'Below w.heap.size w w'' (Derived/Below.lean: '.refl', '.alloc', '.drew', '.setCell' at a new block, '.trans'). Open each 'IsRow' by 'rcases' AHEAD of 'go_enter'; part every test ahead of the walk. -/
theorem told0 {r : R} (hn : r.n = mn 0 2) : r.when = 0 ∧ r.some = false ∧ ∀ x, r.due x = false := by
  have h : r.n = 0 := hn
  simp [R.when, R.some, R.due, h]
theorem told {r : R} (ho : r.Ok) {M : Int} (hn : r.n = mn M 2) (hM : 0 < M) : ∃ t, 0 ≤ t ∧ t ≤ 2305843009214742528 ∧ r.when = t ∧ r.some = true ∧ r.due t = true ∧ (M = 1 → r.u = false → r.due (t - 1) = false) := by
  obtain ⟨h1, h2, h3, h4, h5, h6⟩ := ho
  have q := mn_le M 2
  have hne : ¬ r.n = 0 := by omega
  by_cases hu : (r.u || decide (1 < r.n)) = true
  · refine ⟨r.f, by omega, by omega, by simp only [R.when, hne, hu, if_true, if_false], by simp [R.some, hne], ?_, ?_⟩
    · simp only [R.due]; rw [← Bool.or_assoc, hu]; simp [hne]
    · intro h7 h8
      rw [h8] at hu
      simp at hu
      omega
  · refine ⟨r.f + r.t, by omega, by omega, by simp only [R.when, hne, hu, if_false]; rfl, by simp [R.some, hne], ?_, ?_⟩
    · simp [R.due, hne]
    · intro h7 h8
      have : ¬ 1 < r.n := by omega
      have h9 : ¬ r.f + r.t ≤ r.f + r.t - 1 := by omega
      simp [R.due, h8, this, h9]
theorem packet_n {r : R} {m : Int} {u v : Bool} (hm : 0 ≤ m) (hn : r.n = mn m 2) (hu : r.u = u) (x : Int) : (r.packet x v).n = mn (m + 1) 2 ∧ (r.packet x v).u = (u || v) := by
  have q1 := mn_le m 2
  have q2 := mn_le (m + 1) 2
  have q3 := mn_le (mn m 2 + 1) 2
  refine ⟨?_, by simp [R.packet, hu]⟩
  show mn (r.n + 1) 2 = _; rw [hn]; omega

set_option maxHeartbeats 2000000 in
set_option maxRecDepth 100000 in
theorem walk (a0 : Int) (a1 : Option Addr) (cap1 : Nat) (L : List M.Op) (w : World) (w0 : (Lit.int .i64 a0).wf = true) (hr : OpRow w a1 L) (hL : OpsFit L) :
    Calls Try.prog 5 #[.int .i64 a0, .slice a1 L.length cap1] w fun e w' => e = .returned (.bool true) ∧ Below w.heap.size w w' := by
  have HR := Lib.hid hr
  clear w0 hr hL
  by_cases hf : (0 ≤ a0 ∧ a0 ≤ 1048576)
  case neg =>
    go_enter Try.func5, Try.ntmps5
    go_wp2_with (first
      | (go_at_call 10; (with_reducible refine (new_bad _ _ hf).mono ?_); rintro e w' ⟨rfl, rfl⟩)
      | (go_at_call 9; (with_reducible refine (works_any _).mono ?_); rintro e w4 ⟨rfl, hB⟩))
    go_ret
    exact ⟨rfl, hB⟩
  obtain ⟨h0, h1⟩ := hf
  go_enter Try.func5, Try.ntmps5
  go_wp2_with fail
  (go_at_call 10; (with_reducible refine (new_keeps a0 w h0 h1).mono ?_); rintro e w1 ⟨rfl, HK⟩)
  by_cases hbig : 300 < L.length
  · go_wp2_with (go_at_call 9; (with_reducible refine (works_any _).mono ?_); rintro e w' ⟨rfl, hB⟩)
    go_ret
    exact ⟨rfl, HK.out.1.trans (hB.mono HK.out.1.size)⟩
  have hlen : L.length ≤ 300 := by omega
  have HH : Hid (∃ r : R, Keeps w w1 w.heap.size r ∧ r.n = mn 0 2 ∧ r.u = false) := ⟨_, HK.out, rfl, rfl⟩
  clear HK
  go_wp2_with fail
  obtain ⟨wo, hwo⟩ : ∃ wo : World, wo = w1 := ⟨_, rfl⟩
  subst hwo
  go_loopw [7, 8, 9] (fun h f i wr => ∃ (m : Int) (u : Bool) (k : Nat), h = .int .i64 m ∧ f = .bool u ∧ i = .int .i64 k ∧ k ≤ L.length ∧ 0 ≤ m ∧ m ≤ k ∧ Hid (∃ r : R, Keeps w wr w.heap.size r ∧ r.n = mn m 2 ∧ r.u = u)) (fun h f i _ => L.length - (intOf i).toNat)
  case atStart => exact ⟨0, false, 0, rfl, rfl, rfl, by omega, by omega, by omega, HH⟩
  case round =>
  clear HH
  obtain ⟨m, u, k, rfl, rfl, rfl, hk, hm0, hm1, HH⟩ := hrel
  by_cases hlt : k < L.length
  case neg =>
    obtain ⟨r, hkp, _⟩ := HH.out
    have HB := Lib.hid hkp.1
    clear hkp HH
    go_wp2_with (go_at_call 9; (with_reducible refine (works_any _).mono ?_); rintro e w' ⟨rfl, hB⟩)
    go_ret
    exact ⟨rfl, HB.out.trans (hB.mono HB.out.size)⟩
  obtain ⟨r, hkp, hh⟩ := HH.out
  obtain ⟨bb, off, rfl, hc1, hc2, hc3⟩ := HR.out.at_ hlt
  obtain ⟨kd, hkd⟩ : ∃ c, (L.getD k default).kind = c := ⟨_, rfl⟩
  obtain ⟨c, hcd⟩ : ∃ c, (L.getD k default).now = c := ⟨_, rfl⟩
  obtain ⟨v, hvd⟩ : ∃ c, (L.getD k default).urgent = c := ⟨_, rfl⟩
  rw [hkd] at hc1
  rw [hcd] at hc2
  rw [hvd] at hc3
  clear hkd hcd hvd
  have hbb : bb < w.heap.size := World.block_lt_of_cell? w _ hc1
  have HC : Hid (∀ w', Below w.heap.size w w' → w'.cell? ⟨bb, off + k * 3 + 2, none⟩ = some (.bool v)) := fun w' hb => by rw [hb.cell (p := ⟨bb, _, none⟩) hbb]; exact hc3
  rw [← hkp.1.cell (p := ⟨bb, _, none⟩) hbb] at hc1 hc2 hc3
  have hlt' : (k : Int) < L.length := by omega
  have HK := Lib.hid hkp
  have HI := Lib.hid hh
  clear hkp hh HH
  by_cases hk0 : kd = 0
  · subst hk0
    go_wp2_with fail
    (go_at_call 12; (with_reducible refine (packet_keeps HK.out _ v).mono ?_); rintro e w3 ⟨rfl, h3⟩)
    have hu3 := HC.out _ h3.out.1
    have HE0 := Lib.hid (packet_n (v := v) hm0 HI.out.1 HI.out.2 (mn (mx c 0) 2305843009213693952))
    generalize r.packet (mn (mx c 0) 2305843009213693952) v = r3 at h3 HE0
    clear HK HI hc1 hc2 hc3 HC
    cases u <;> cases v
    · have HE : Hid (r3.n = mn (m + 1) 2 ∧ r3.u = false) := HE0.out
      clear HE0
      by_cases hm : m = 0
      · subst hm
        have HE : Hid (r3.n = mn 1 2 ∧ r3.u = false) := HE.out
        go_wp2_with fail
        obtain ⟨t, ht0, ht1, T⟩ := told h3.out.2.1 (M := 1) HE.out.1 (by omega)
        have T := Lib.hid T
        (go_at_call 16; (with_reducible refine (when_keeps h3.out t true T.out.1 T.out.2.1).mono ?_); rintro e w6 ⟨rfl, h6⟩)
        clear h3
        go_wp2_with fail
        (go_at_call 18; (with_reducible refine (due_keeps h6.out t true T.out.2.2.1).mono ?_); rintro e w7 ⟨rfl, h7⟩)
        clear h6
        go_wp2_with fail
        (go_at_call 18; (with_reducible refine (due_keeps h7.out (t - 1) false (T.out.2.2.2 (by simp) HE.out.2)).mono ?_); rintro e w8 ⟨rfl, h8⟩)
        clear h7
        go_wp2_with fail
        (go_at_call 16; (with_reducible refine (when_keeps h8.out t true T.out.1 T.out.2.1).mono ?_); rintro e w9 ⟨rfl, h9⟩)
        clear h8 T
        go_wp2_with fail
        have HX : Hid (∃ r : R, Keeps w w9 w.heap.size r ∧ r.n = mn (1) 2 ∧ r.u = false) := ⟨_, h9.out, HE.out⟩
        clear h9 HE
        go_roundw
        case rel => exact ⟨1, false, k + 1, by go_num, by go_num, by go_num, by omega, by omega, by omega, HX⟩
        case measure => (simp [intOf] <;> omega)
      · have hq : (m + 1 == 1) = false := by simp; omega
        have hq2 : decide (0 < m + 1) = true := by simp; omega
        go_wp2_with fail
        obtain ⟨t, ht0, ht1, T⟩ := told h3.out.2.1 (M := m + 1) HE.out.1 (by omega)
        have T := Lib.hid T
        (go_at_call 16; (with_reducible refine (when_keeps h3.out t true T.out.1 T.out.2.1).mono ?_); rintro e w6 ⟨rfl, h6⟩)
        clear h3
        go_wp2_with fail
        (go_at_call 18; (with_reducible refine (due_keeps h6.out t true T.out.2.2.1).mono ?_); rintro e w7 ⟨rfl, h7⟩)
        clear h6
        go_wp2_with fail
        (go_at_call 16; (with_reducible refine (when_keeps h7.out t true T.out.1 T.out.2.1).mono ?_); rintro e w9 ⟨rfl, h9⟩)
        clear h7 T
        go_wp2_with fail
        have HX : Hid (∃ r : R, Keeps w w9 w.heap.size r ∧ r.n = mn (m + 1) 2 ∧ r.u = false) := ⟨_, h9.out, HE.out⟩
        clear h9 HE
        go_roundw
        case rel => exact ⟨m + 1, false, k + 1, by go_num, by go_num, by go_num, by omega, by omega, by omega, HX⟩
        case measure => (simp [intOf] <;> omega)
    · have HE : Hid (r3.n = mn (m + 1) 2 ∧ r3.u = true) := HE0.out
      clear HE0
      have hq2 : decide (0 < m + 1) = true := by simp; omega
      go_wp2_with fail
      obtain ⟨t, ht0, ht1, T⟩ := told h3.out.2.1 (M := m + 1) HE.out.1 (by omega)
      have T := Lib.hid T
      (go_at_call 16; (with_reducible refine (when_keeps h3.out t true T.out.1 T.out.2.1).mono ?_); rintro e w6 ⟨rfl, h6⟩)
      clear h3
      go_wp2_with fail
      (go_at_call 18; (with_reducible refine (due_keeps h6.out t true T.out.2.2.1).mono ?_); rintro e w7 ⟨rfl, h7⟩)
      clear h6
      go_wp2_with fail
      (go_at_call 16; (with_reducible refine (when_keeps h7.out t true T.out.1 T.out.2.1).mono ?_); rintro e w9 ⟨rfl, h9⟩)
      clear h7 T
      go_wp2_with fail
      have HX : Hid (∃ r : R, Keeps w w9 w.heap.size r ∧ r.n = mn (m + 1) 2 ∧ r.u = true) := ⟨_, h9.out, HE.out⟩
      clear h9 HE
      go_roundw
      case rel => exact ⟨m + 1, true, k + 1, by go_num, by go_num, by go_num, by omega, by omega, by omega, HX⟩
      case measure => (simp [intOf] <;> omega)
    · have HE : Hid (r3.n = mn (m + 1) 2 ∧ r3.u = true) := HE0.out
      clear HE0
      have hq2 : decide (0 < m + 1) = true := by simp; omega
      go_wp2_with fail
      obtain ⟨t, ht0, ht1, T⟩ := told h3.out.2.1 (M := m + 1) HE.out.1 (by omega)
      have T := Lib.hid T
      (go_at_call 16; (with_reducible refine (when_keeps h3.out t true T.out.1 T.out.2.1).mono ?_); rintro e w6 ⟨rfl, h6⟩)
      clear h3
      go_wp2_with fail
      (go_at_call 18; (with_reducible refine (due_keeps h6.out t true T.out.2.2.1).mono ?_); rintro e w7 ⟨rfl, h7⟩)
      clear h6
      go_wp2_with fail
      (go_at_call 16; (with_reducible refine (when_keeps h7.out t true T.out.1 T.out.2.1).mono ?_); rintro e w9 ⟨rfl, h9⟩)
      clear h7 T
      go_wp2_with fail
      have HX : Hid (∃ r : R, Keeps w w9 w.heap.size r ∧ r.n = mn (m + 1) 2 ∧ r.u = true) := ⟨_, h9.out, HE.out⟩
      clear h9 HE
      go_roundw
      case rel => exact ⟨m + 1, true, k + 1, by go_num, by go_num, by go_num, by omega, by omega, by omega, HX⟩
      case measure => (simp [intOf] <;> omega)
    · have HE : Hid (r3.n = mn (m + 1) 2 ∧ r3.u = true) := HE0.out
      clear HE0
      have hq2 : decide (0 < m + 1) = true := by simp; omega
      go_wp2_with fail
      obtain ⟨t, ht0, ht1, T⟩ := told h3.out.2.1 (M := m + 1) HE.out.1 (by omega)
      have T := Lib.hid T
      (go_at_call 16; (with_reducible refine (when_keeps h3.out t true T.out.1 T.out.2.1).mono ?_); rintro e w6 ⟨rfl, h6⟩)
      clear h3
      go_wp2_with fail
      (go_at_call 18; (with_reducible refine (due_keeps h6.out t true T.out.2.2.1).mono ?_); rintro e w7 ⟨rfl, h7⟩)
      clear h6
      go_wp2_with fail
      (go_at_call 16; (with_reducible refine (when_keeps h7.out t true T.out.1 T.out.2.1).mono ?_); rintro e w9 ⟨rfl, h9⟩)
      clear h7 T
      go_wp2_with fail
      have HX : Hid (∃ r : R, Keeps w w9 w.heap.size r ∧ r.n = mn (m + 1) 2 ∧ r.u = true) := ⟨_, h9.out, HE.out⟩
      clear h9 HE
      go_roundw
      case rel => exact ⟨m + 1, true, k + 1, by go_num, by go_num, by go_num, by omega, by omega, by omega, HX⟩
      case measure => (simp [intOf] <;> omega)
  by_cases hk1 : kd = 1
  · subst hk1
    go_wp2_with fail
    (go_at_call 14; (with_reducible refine (sent_keeps HK.out).mono ?_); rintro e w3 ⟨rfl, h3⟩)
    have HE : Hid (r.sent.n = mn 0 2 ∧ r.sent.u = false) := ⟨rfl, rfl⟩
    clear HK HI hc1 hc2 hc3 HC
    go_wp2_with fail
    have T := Lib.hid (told0 HE.out.1)
    (go_at_call 16; (with_reducible refine (when_keeps h3.out 0 false T.out.1 T.out.2.1).mono ?_); rintro e w6 ⟨rfl, h6⟩)
    clear h3
    go_wp2_with fail
    (go_at_call 18; (with_reducible refine (due_keeps h6.out _ false (T.out.2.2 _)).mono ?_); rintro e w7 ⟨rfl, h7⟩)
    clear h6
    go_wp2_with fail
    (go_at_call 16; (with_reducible refine (when_keeps h7.out 0 false T.out.1 T.out.2.1).mono ?_); rintro e w9 ⟨rfl, h9⟩)
    clear h7 T
    go_wp2_with fail
    have HX : Hid (∃ r : R, Keeps w w9 w.heap.size r ∧ r.n = mn (0) 2 ∧ r.u = false) := ⟨_, h9.out, HE.out⟩
    clear h9 HE
    go_roundw
    case rel => exact ⟨0, false, k + 1, by go_num, by go_num, by go_num, by omega, by omega, by omega, HX⟩
    case measure => (simp [intOf] <;> omega)
  have hk0' : (kd == 0) = false := by simpa using hk0
  have hk1' : (kd == 1) = false := by simpa using hk1
  have HE := HI
  clear HI HC
  by_cases hm : m = 0
  · subst hm
    go_wp2_with fail
    clear hc1 hc2 hc3
    have T := Lib.hid (told0 HE.out.1)
    (go_at_call 16; (with_reducible refine (when_keeps HK.out 0 false T.out.1 T.out.2.1).mono ?_); rintro e w6 ⟨rfl, h6⟩)
    clear HK
    go_wp2_with fail
    (go_at_call 18; (with_reducible refine (due_keeps h6.out _ false (T.out.2.2 _)).mono ?_); rintro e w7 ⟨rfl, h7⟩)
    clear h6
    go_wp2_with fail
    (go_at_call 16; (with_reducible refine (when_keeps h7.out 0 false T.out.1 T.out.2.1).mono ?_); rintro e w9 ⟨rfl, h9⟩)
    clear h7 T
    go_wp2_with fail
    have HX : Hid (∃ r : R, Keeps w w9 w.heap.size r ∧ r.n = mn (0) 2 ∧ r.u = u) := ⟨_, h9.out, HE.out⟩
    clear h9 HE
    go_roundw
    case rel => exact ⟨0, u, k + 1, by go_num, by go_num, by go_num, by omega, by omega, by omega, HX⟩
    case measure => (simp [intOf] <;> omega)
  have hq2 : decide (0 < m) = true := by simp; omega
  by_cases hl : m = 1 ∧ u = false
  · obtain ⟨rfl, rfl⟩ := hl
    go_wp2_with fail
    clear hc1 hc2 hc3
    obtain ⟨t, ht0, ht1, T⟩ := told HK.out.2.1 (M := 1) HE.out.1 (by omega)
    have T := Lib.hid T
    (go_at_call 16; (with_reducible refine (when_keeps HK.out t true T.out.1 T.out.2.1).mono ?_); rintro e w6 ⟨rfl, h6⟩)
    clear HK
    go_wp2_with fail
    (go_at_call 18; (with_reducible refine (due_keeps h6.out t true T.out.2.2.1).mono ?_); rintro e w7 ⟨rfl, h7⟩)
    clear h6
    go_wp2_with fail
    (go_at_call 18; (with_reducible refine (due_keeps h7.out (t - 1) false (T.out.2.2.2 (by simp) HE.out.2)).mono ?_); rintro e w8 ⟨rfl, h8⟩)
    clear h7
    go_wp2_with fail
    (go_at_call 16; (with_reducible refine (when_keeps h8.out t true T.out.1 T.out.2.1).mono ?_); rintro e w9 ⟨rfl, h9⟩)
    clear h8 T
    go_wp2_with fail
    have HX : Hid (∃ r : R, Keeps w w9 w.heap.size r ∧ r.n = mn (1) 2 ∧ r.u = false) := ⟨_, h9.out, HE.out⟩
    clear h9 HE
    go_roundw
    case rel => exact ⟨1, false, k + 1, by go_num, by go_num, by go_num, by omega, by omega, by omega, HX⟩
    case measure => (simp [intOf] <;> omega)
  have hl2 : u = true ∨ (u = false ∧ (m == 1) = false) := by cases u <;> simp_all
  rcases hl2 with rfl | ⟨rfl, hq⟩
  · go_wp2_with fail
    clear hc1 hc2 hc3
    obtain ⟨t, ht0, ht1, T⟩ := told HK.out.2.1 (M := m) HE.out.1 (by omega)
    have T := Lib.hid T
    (go_at_call 16; (with_reducible refine (when_keeps HK.out t true T.out.1 T.out.2.1).mono ?_); rintro e w6 ⟨rfl, h6⟩)
    clear HK
    go_wp2_with fail
    (go_at_call 18; (with_reducible refine (due_keeps h6.out t true T.out.2.2.1).mono ?_); rintro e w7 ⟨rfl, h7⟩)
    clear h6
    go_wp2_with fail
    (go_at_call 16; (with_reducible refine (when_keeps h7.out t true T.out.1 T.out.2.1).mono ?_); rintro e w9 ⟨rfl, h9⟩)
    clear h7 T
    go_wp2_with fail
    have HX : Hid (∃ r : R, Keeps w w9 w.heap.size r ∧ r.n = mn (m) 2 ∧ r.u = true) := ⟨_, h9.out, HE.out⟩
    clear h9 HE
    go_roundw
    case rel => exact ⟨m, true, k + 1, by go_num, by go_num, by go_num, by omega, by omega, by omega, HX⟩
    case measure => (simp [intOf] <;> omega)
  · go_wp2_with fail
    clear hc1 hc2 hc3
    obtain ⟨t, ht0, ht1, T⟩ := told HK.out.2.1 (M := m) HE.out.1 (by omega)
    have T := Lib.hid T
    (go_at_call 16; (with_reducible refine (when_keeps HK.out t true T.out.1 T.out.2.1).mono ?_); rintro e w6 ⟨rfl, h6⟩)
    clear HK
    go_wp2_with fail
    (go_at_call 18; (with_reducible refine (due_keeps h6.out t true T.out.2.2.1).mono ?_); rintro e w7 ⟨rfl, h7⟩)
    clear h6
    go_wp2_with fail
    (go_at_call 16; (with_reducible refine (when_keeps h7.out t true T.out.1 T.out.2.1).mono ?_); rintro e w9 ⟨rfl, h9⟩)
    clear h7 T
    go_wp2_with fail
    have HX : Hid (∃ r : R, Keeps w w9 w.heap.size r ∧ r.n = mn (m) 2 ∧ r.u = false) := ⟨_, h9.out, HE.out⟩
    clear h9 HE
    go_roundw
    case rel => exact ⟨m, false, k + 1, by go_num, by go_num, by go_num, by omega, by omega, by omega, HX⟩
    case measure => (simp [intOf] <;> omega)

/-! ### THE ROW's STEP: WRITTEN OUT: LEAVE IT -/
set_option maxRecDepth 100000 in
theorem lifted (os : Os) (started : os.Started) (H : Type) (enc : TypeId × Value → H) :
    ReturnsInHanded {} Try.checked os 5 .any (Rows.delayWhenSpec.pre6 enc Try.prog Try.f5 Rows.delayWhenRow.domain false) (Rows.delayWhenSpec.post enc Try.prog Try.f5 false true false false) := by
  refine returnsInHanded_of_change (C := Try.checked) own started (by kernel_rfl) Try.func5
    (ChangeSpec.witness6 (enc := enc) (C := Try.checked) false ⟨#[], #[.int .i64 0, .slice none 0 0], []⟩ 8 (by kernel_rfl) (by kernel_rfl) (by kernel_rfl) (by kernel_rfl)) ?_
  intro W base args ds gs before hval0 hW hcnd _
  have hval : ∀ (j : Nat) t v, Try.f5.params[j]? = some t → args[j]? = some v → Value.okWide Try.prog W .any base t v := hval0
  have hW' := hW
  obtain ⟨p, q, hA0, hV, rfl, hfz, hnd⟩ := hW
  have hA : DataW.TrodAll enc Try.prog W 0 (fun _ => true) true Try.f5.params.toList args.toList ds p := hA0
  rw [Try.params5] at hA hval
  obtain ⟨v0, vs0, d0, ds0, p0, q0, hargs, rfl, rfl, h0, r0⟩ := trodAll_cons hA
  obtain ⟨v1, vs1, d1, ds1, p1, q1, rfl, rfl, rfl, h1, r1⟩ := trodAll_cons r0
  obtain ⟨rfl, rfl, rfl⟩ := trodAll_nil r1
  obtain rfl : args = #[v0, v1] := by cases args; simp_all
  obtain ⟨rfl, rfl⟩ := trodVars_none hV
  obtain ⟨a0, rfl, rfl, rfl, w0⟩ := open_int Try.underlying2 (hval 0 2 v0 rfl rfl) h0
  obtain ⟨a1, len1, cap1, rfl⟩ := okWide_slice Try.underlying22 (hval 1 22 v1 rfl rfl)
  have k1 := h1
  have lt1 : ∀ x ∈ p1, x.block < W.heap.size := by obtain ⟨m, hm⟩ := k1; exact DataW.trod_lt m _ _ _ hm
  obtain ⟨L, rfl, hr1, hL1⟩ : ∃ L : List M.Op, L.length = len1 ∧ OpRow W a1 L ∧ OpsFit L := by
    obtain ⟨fuel, hf⟩ := h1
    exact ops_of (by simpa [Value.cells] using hf)
  clear hA0 hval0
  refine (walk a0 a1 cap1 L W w0 hr1 hL1).mono fun e W' ⟨he, bel⟩ => ?_
  subst he
  exact ⟨_, rfl, _, _, _, [], _, [], hW', trodAll_mk1 (shut_bool Try.underlying4 _), (trodAll_cons_mk (shut_int Try.underlying2 w0) (trodAll_cons_mk (Below.trod laidOut (by kernel_rfl) (of_decide_eq_true (by kernel_rfl)) k1 bel lt1) trodAll_mk0)), rfl, bel.frame _, fun h => by cases h⟩

theorem over : Rows.delayWhenRow.holds Try.pinned (OpenSpec.ofChange Rows.delayWhenSpec) :=
  OpenClaim.holds_of_wide 5 Try.f5 rfl rfl rfl rfl rfl rfl rfl ⟨rfl, rfl, rfl, rfl, rfl⟩ rfl rfl rfl rfl rfl (by kernel_rfl) Try.func5 (by kernel_rfl)
    (of_decide_eq_true (by kernel_rfl)) (by unfold Func.isWrapper; first | (rw [if_pos (by decide +kernel)]; kernel_rfl) | (rw [if_neg (by decide +kernel)]; exact ⟨rfl, rfl⟩))
    (fun os started H enc _ => lifted os started H enc)

/-- ████ THE STATEMENT ████ -/
theorem proved : Rows.DelayWhenSaid := over
#print axioms proved
end Go.Proofs.Ytjemamdldeeebaa.delayWhen

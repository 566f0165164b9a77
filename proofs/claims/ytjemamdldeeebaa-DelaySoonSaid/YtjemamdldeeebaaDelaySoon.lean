/- Proved: 'Rows.DelaySoonSaid': for every input fairleadlaw16.DelaySoon returns true, and each argument reads afterwards as before. Conditions: none beyond the given row's own. (The frame round the walk was written by the kit's proof-skeleton.mjs.) -/
import Derived.Test.YtjemamdldeeebaaRows
import Derived.WalkKit
import Derived.ProofKit
import Derived.OpenShut
import Derived.ShutString
import Derived.ChangeOld
import Derived.Below
import Derived.Test.YtjemamdldeeebaaShell
import Derived.Test.YtjemamdldeeebaaWalkC
namespace Go.Proofs.Ytjemamdldeeebaa.delaySoon
open Go.ChangeShapes Go.WideShapes Go.ChangeAt Go.RowKit
open Go.ChangeMaps (open_string shut_string)
set_option linter.unusedVariables false
open M
attribute [local go_sem] max_i64 min_i64

theorem own : ownKnob Try.prog.godebug = none := by kernel_rfl
theorem laidOut : laidOutB Try.prog = true := by kernel_rfl

/-- WHAT THE WALK IS TOLD OF A SLICE OF INTEGERS THAT CAME IN: it is nil; or it leads to a row of 'cap' cells, the numbers 'zs' (the first 'len' are its elements, the rest its spare room), each fitting its kind. -/
def IsRow (k : IntKind) (w : World) (a : Option Addr) (len cap : Nat) (zs : List Int) : Prop :=
  (a = none ∧ len = 0 ∧ cap = 0 ∧ zs = []) ∨
  ∃ x, a = some x ∧ len ≤ cap ∧ cap ≤ maxLen ∧ zs.length = cap ∧ (∀ i, i < zs.length → w.cell? (x.add i) = some (.int k (zs.getD i 0))) ∧ ∀ n ∈ zs, (Lit.int k n).wf = true

/-! ### STEP 1: THE WALK: the Go text returns true, AND WRITES NOTHING THAT WAS THERE: 'Below w.heap.size w w'' (Derived/Below.lean: '.refl', '.alloc', '.drew', '.setCell' at a new block, '.trans'). Open each 'IsRow' by 'rcases' AHEAD of 'go_enter'; part every test ahead of the walk. -/
set_option maxHeartbeats 1000000 in
set_option maxRecDepth 100000 in
theorem walk (a0 : Int) (a1 : Option Addr) (len1 cap1 : Nat) (z1 : List Int) (w : World) (w0 : (Lit.int .u8 a0).wf = true) (w1 : IsRow .u8 w a1 len1 cap1 z1) :
    Calls Try.prog 4 #[.int .u8 a0, .slice a1 len1 cap1] w fun e w' => e = .returned (.bool true) ∧ Below w.heap.size w w' := by
  obtain ⟨L, rfl, hr, hcap, hwf, _⟩ := row_of w1
  have hL : ∀ n ∈ L, 0 ≤ n ∧ n ≤ 255 := fun n hn => wf_u8 (hwf n hn)
  obtain ⟨ha0, ha1⟩ := wf_u8 w0
  have HR := Lib.hid hr
  have HL := Lib.hid hL
  clear w0 w1 hwf hcap hr hL
  by_cases hbig : 300 < L.length
  · go_enter Try.func4, Try.ntmps4
    go_wp2_with (go_at_call 9; (with_reducible refine (works_any _).mono ?_); rintro e w' ⟨rfl, hB⟩)
    go_ret
    exact ⟨rfl, hB⟩
  have hlen : L.length ≤ 300 := by omega
  go_enter Try.func4, Try.ntmps4
  go_wp2_with fail
  have hW : 0 ≤ a0 % 101 ∧ a0 % 101 ≤ 100 := by omega
  generalize a0 % 101 = W at hW ⊢
  obtain ⟨hW0, hW1⟩ := hW
  (go_at_call 10; (with_reducible refine (new_keeps W w hW0 (by omega)).mono ?_); rintro e w1 ⟨rfl, HK⟩)
  have HH : Hid (∃ r : R, Keeps w w1 w.heap.size r ∧ r.t = W ∧ r.n = 0 ∧ r.u = false ∧ ((0 : Int) < 0 → r.f = 0 ∧ (0 : Int) ≤ 0)) := ⟨_, HK.out, rfl, rfl, rfl, fun h => absurd h (by omega)⟩
  clear HK
  go_wp2_with fail
  obtain ⟨wo, hwo⟩ : ∃ wo : World, wo = w1 := ⟨_, rfl⟩
  subst hwo
  go_loopw [8, 9, 10] (fun h f i wr => ∃ (m ff : Int) (k : Nat), h = .int .i64 m ∧ f = .int .i64 ff ∧ i = .int .i64 k ∧ k ≤ L.length ∧ 0 ≤ m ∧ m ≤ 1 ∧ 0 ≤ ff ∧ ff ≤ 300 ∧ Hid (∃ r : R, Keeps w wr w.heap.size r ∧ r.t = W ∧ r.n = m ∧ r.u = false ∧ (0 < m → r.f = ff ∧ ff ≤ k))) (fun h f i _ => L.length - (intOf i).toNat)
  case atStart => exact ⟨0, 0, 0, rfl, rfl, rfl, by omega, by omega, by omega, by omega, by omega, HH⟩
  case round =>
  clear HH
  obtain ⟨m, ff, k, rfl, rfl, rfl, hk, hm0, hm1, hf0, hf1, HH⟩ := hrel
  by_cases hlt : k < L.length
  · obtain ⟨r, hkp, hh⟩ := HH.out
    obtain ⟨bb, off, rfl, hc⟩ := HR.out.at_ hlt
    have hcL := HL.out (L.getD k 0) (by rw [List.getD_eq_getElem?_getD, List.getElem?_eq_getElem hlt]; exact List.getElem_mem hlt)
    obtain ⟨c, hcd⟩ : ∃ c, L.getD k 0 = c := ⟨_, rfl⟩
    rw [hcd] at hc hcL
    obtain ⟨hc0, hc1⟩ := hcL
    have hbb : bb < w.heap.size := World.block_lt_of_cell? w _ hc
    have HC : Hid (∀ w', Below w.heap.size w w' → w'.cell? ⟨bb, off + k, none⟩ = some (.int .u8 c)) := fun w' hb => by rw [hb.cell (p := ⟨bb, _, none⟩) hbb]; exact hc
    have hq : 0 ≤ c % 4 ∧ c % 4 ≤ 3 := by omega
    have hlt' : (k : Int) < L.length := by omega
    have H0 : Hid (∃ r : R, Keeps w wr w.heap.size r ∧ r.t = W ∧ r.n = mn m 2 ∧ r.u = false ∧ (0 < m → r.f = ff ∧ ff ≤ k)) := ⟨r, hkp, hh.1, by rw [hh.2.1]; have := mn_le m 2; omega, hh.2.2.1, hh.2.2.2⟩
    clear hcd hc hh hkp HH HL
    go_wp2_with fail
    obtain ⟨wp, hwp⟩ : ∃ wp : World, wp = wr := ⟨_, rfl⟩
    subst hwp
    go_loopw [8, 9, 12] (fun h f i wr => ∃ (m ff : Int) (j : Nat), h = .int .i64 m ∧ f = .int .i64 ff ∧ i = .int .i64 j ∧ (j : Int) ≤ 3 ∧ 0 ≤ m ∧ m ≤ 1 + j ∧ 0 ≤ ff ∧ ff ≤ 300 ∧ Hid (∃ r : R, Keeps w wr w.heap.size r ∧ r.t = W ∧ r.n = mn m 2 ∧ r.u = false ∧ (0 < m → r.f = ff ∧ ff ≤ k))) (fun h f i _ => 4 - (intOf i).toNat)
    case atStart => exact ⟨m, ff, 0, rfl, rfl, rfl, by omega, by omega, by omega, by omega, by omega, H0⟩
    case round =>
    clear H0
    obtain ⟨m, ff, j, rfl, rfl, rfl, hj, hm0, hm1, hf0, hf1, HH⟩ := hrel
    obtain ⟨r, hkp, hh⟩ := HH.out
    have hcell := HC.out _ hkp.1
    have HK := Lib.hid hkp
    have HI := Lib.hid hh
    clear HH hkp hh
    by_cases hjq : (j : Int) < c % 4
    · by_cases hm : m = 0
      · subst hm
        go_wp2_with fail
        (go_at_call 12; (with_reducible refine (packet_keeps HK.out k false).mono ?_); rintro e w3 ⟨rfl, h3⟩)
        have H1 : Hid (∃ r : R, Keeps w w3 w.heap.size r ∧ r.t = W ∧ r.n = mn 1 2 ∧ r.u = false ∧ ((0 : Int) < 1 → r.f = k ∧ (k : Int) ≤ k)) := ⟨_, h3.out, HI.out.1, by simp only [R.packet]; rw [HI.out.2.1]; decide, by simp [R.packet, HI.out.2.2.1], fun _ => ⟨by simp only [R.packet]; rw [HI.out.2.1]; simp only [show mn 0 2 = 0 by decide, if_true]; exact clip_id (by omega) (by omega), Int.le_refl _⟩⟩
        clear HK HI h3 hcell
        go_wp2_with fail
        go_roundw
        case rel => exact ⟨1, k, j + 1, by go_num, by go_num, by go_num, by omega, by omega, by omega, by omega, by omega, H1⟩
        case measure => (simp [intOf] <;> omega)
      · have hm' : (m == 0) = false := by simpa using hm
        go_wp2_with fail
        (go_at_call 12; (with_reducible refine (packet_keeps HK.out k false).mono ?_); rintro e w3 ⟨rfl, h3⟩)
        have H1 : Hid (∃ r : R, Keeps w w3 w.heap.size r ∧ r.t = W ∧ r.n = mn (m + 1) 2 ∧ r.u = false ∧ (0 < m + 1 → r.f = ff ∧ ff ≤ k)) := by
          obtain ⟨i1, i2, i3, i4⟩ := HI.out
          have q1 := mn_le m 2
          have q2 := mn_le (m + 1) 2
          have q3 := mn_le (mn m 2 + 1) 2
          have hne : ¬ r.n = 0 := by omega
          refine ⟨_, h3.out, i1, ?_, by simp [R.packet, i3], fun _ => ?_⟩
          · show mn (r.n + 1) 2 = _; rw [i2]; omega
          · show (if r.n = 0 then clip k else r.f) = _ ∧ _; rw [if_neg hne]; exact i4 (by omega)
        clear HK HI h3 hcell
        go_wp2_with fail
        go_roundw
        case rel => exact ⟨m + 1, ff, j + 1, by go_num, by go_num, by go_num, by omega, by omega, by omega, by omega, by omega, H1⟩
        case measure => (simp [intOf] <;> omega)
    clear HC
    by_cases hA : 2 ≤ m ∨ (m = 1 ∧ ff + W ≤ k)
    · have HD : Hid (∀ r : R, r.t = W ∧ r.n = mn m 2 ∧ r.u = false ∧ (0 < m → r.f = ff ∧ ff ≤ k) → r.due k = true) := fun r h => by
        obtain ⟨i1, i2, i3, i4⟩ := h
        have q1 := mn_le m 2
        obtain ⟨i5, _⟩ := i4 (by omega)
        have hne : ¬ r.n = 0 := by omega
        have : 1 < r.n ∨ ff + W ≤ k := by omega
        simp [R.due, hne, i3, i1, i5, this]
      have hB : (decide (2 ≤ m) = true) ∨ (decide (2 ≤ m) = false ∧ m = 1 ∧ decide (ff + W ≤ k) = true) := by
        by_cases h : 2 ≤ m
        · exact .inl (by simpa using h)
        · exact .inr ⟨by simpa using h, by omega, by simp; omega⟩
      go_wp2_with fail
      (go_at_call 18; (with_reducible refine (due_keeps HK.out k true (HD.out _ HI.out)).mono ?_); rintro e w3 ⟨rfl, h3⟩)
      have H2 := Lib.hid HI.out.1
      clear HK HD HI hcell
      rcases hB with hB | ⟨hB, rfl, hB2⟩
      all_goals
        go_wp2_with fail
        (go_at_call 14; (with_reducible refine (sent_keeps h3.out).mono ?_); rintro e w4 ⟨rfl, h4⟩)
        clear h3
        go_wp2_with fail
        (go_at_call 18; (with_reducible refine (due_keeps h4.out k false (by simp [R.due, R.sent])).mono ?_); rintro e w5 ⟨rfl, h5⟩)
        clear h4
        have H1 : Hid (∃ r : R, Keeps w w5 w.heap.size r ∧ r.t = W ∧ r.n = 0 ∧ r.u = false ∧ ((0 : Int) < 0 → r.f = ff ∧ ff ≤ (k + 1 : Nat))) := ⟨_, h5.out, H2.out, rfl, rfl, fun h => absurd h (by omega)⟩
        clear h5 H2
        go_wp2_with fail
        go_roundw
        case rel => exact ⟨0, ff, k + 1, by go_num, by go_num, by go_num, by omega, by omega, by omega, by omega, by omega, H1⟩
        case measure => (simp [intOf] <;> omega)
    · have hm01 : m = 0 ∨ (m = 1 ∧ ¬ ff + W ≤ k) := by omega
      have HD : Hid (∀ r : R, r.t = W ∧ r.n = mn m 2 ∧ r.u = false ∧ (0 < m → r.f = ff ∧ ff ≤ k) → r.due k = false) := fun r h => by
        obtain ⟨i1, i2, i3, i4⟩ := h
        have q1 := mn_le m 2
        by_cases hz : m = 0
        · have hne : r.n = 0 := by omega
          simp [R.due, hne]
        · obtain ⟨i5, _⟩ := i4 (by omega)
          have hne : ¬ 1 < r.n := by omega
          have : ¬ ff + W ≤ k := by omega
          simp [R.due, hne, i3, i1, i5, this]
      go_wp2_with fail
      (go_at_call 18; (with_reducible refine (due_keeps HK.out k false (HD.out _ HI.out)).mono ?_); rintro e w3 ⟨rfl, h3⟩)
      have HD2 := Lib.hid (due_keeps h3.out k false (HD.out _ HI.out))
      have H2 := Lib.hid HI.out
      have H4 : Hid (0 < m → ff ≤ k) := fun h => (HI.out.2.2.2 h).2
      clear HK HD HI hcell h3
      rcases hm01 with rfl | ⟨rfl, hB⟩
      · go_wp2_with fail
        (go_at_call 18; (with_reducible refine HD2.out.mono ?_); rintro e w5 ⟨rfl, h5⟩)
        clear HD2
        have H1 : Hid (∃ r : R, Keeps w w5 w.heap.size r ∧ r.t = W ∧ r.n = 0 ∧ r.u = false ∧ ((0 : Int) < 0 → r.f = ff ∧ ff ≤ (k + 1 : Nat))) := ⟨_, h5.out, H2.out.1, by rw [H2.out.2.1]; decide, H2.out.2.2.1, fun h => ⟨(H2.out.2.2.2 h).1, by have := H4.out h; omega⟩⟩
        have H6 := H4.out
        clear h5 H2 H4
        go_wp2_with fail
        go_roundw
        case rel => exact ⟨0, ff, k + 1, by go_num, by go_num, by go_num, by omega, by omega, by omega, by omega, by omega, H1⟩
        case measure => (simp [intOf] <;> omega)
      · go_wp2_with fail
        (go_at_call 18; (with_reducible refine HD2.out.mono ?_); rintro e w5 ⟨rfl, h5⟩)
        clear HD2
        have H1 : Hid (∃ r : R, Keeps w w5 w.heap.size r ∧ r.t = W ∧ r.n = 1 ∧ r.u = false ∧ ((0 : Int) < 1 → r.f = ff ∧ ff ≤ (k + 1 : Nat))) := ⟨_, h5.out, H2.out.1, by rw [H2.out.2.1]; decide, H2.out.2.2.1, fun h => ⟨(H2.out.2.2.2 h).1, by have := H4.out h; omega⟩⟩
        have H6 : ff ≤ k := H4.out (by decide)
        have H7 : (decide (W ≤ k - ff)) = false := by simp; omega
        have H8 : (decide (ff + W ≤ k)) = false := by simp; omega
        clear h5 H2 H4
        go_wp2_with fail
        go_roundw
        case rel => exact ⟨1, ff, k + 1, by go_num, by go_num, by go_num, by omega, by omega, by omega, by omega, by omega, H1⟩
        case measure => (simp [intOf] <;> omega)
  obtain ⟨r, hkp, _⟩ := HH.out
  have HB := Lib.hid hkp.1
  clear hkp HH
  go_wp2_with (go_at_call 9; (with_reducible refine (works_any _).mono ?_); rintro e w' ⟨rfl, hB⟩)
  go_ret
  exact ⟨rfl, HB.out.trans (hB.mono HB.out.size)⟩

/-! ### THE ROW's STEP: WRITTEN OUT: LEAVE IT -/
set_option maxRecDepth 100000 in
theorem lifted (os : Os) (started : os.Started) (H : Type) (enc : TypeId × Value → H) :
    ReturnsInHanded {} Try.checked os 4 .any (Rows.delaySoonSpec.pre6 enc Try.prog Try.f4 Rows.delaySoonRow.domain false) (Rows.delaySoonSpec.post enc Try.prog Try.f4 false true false false) := by
  refine returnsInHanded_of_change (C := Try.checked) own started (by kernel_rfl) Try.func4
    (ChangeSpec.witness6 (enc := enc) (C := Try.checked) false ⟨#[], #[.int .u8 0, .slice none 0 0], []⟩ 8 (by kernel_rfl) (by kernel_rfl) (by kernel_rfl) (by kernel_rfl)) ?_
  intro W base args ds gs before hval0 hW hcnd _
  have hval : ∀ (j : Nat) t v, Try.f4.params[j]? = some t → args[j]? = some v → Value.okWide Try.prog W .any base t v := hval0
  have hW' := hW
  obtain ⟨p, q, hA0, hV, rfl, hfz, hnd⟩ := hW
  have hA : DataW.TrodAll enc Try.prog W 0 (fun _ => true) true Try.f4.params.toList args.toList ds p := hA0
  rw [Try.params4] at hA hval
  obtain ⟨v0, vs0, d0, ds0, p0, q0, hargs, rfl, rfl, h0, r0⟩ := trodAll_cons hA
  obtain ⟨v1, vs1, d1, ds1, p1, q1, rfl, rfl, rfl, h1, r1⟩ := trodAll_cons r0
  obtain ⟨rfl, rfl, rfl⟩ := trodAll_nil r1
  obtain rfl : args = #[v0, v1] := by cases args; simp_all
  obtain ⟨rfl, rfl⟩ := trodVars_none hV
  obtain ⟨a0, rfl, rfl, rfl, w0⟩ := open_int Try.underlying5 (hval 0 5 v0 rfl rfl) h0
  obtain ⟨a1, len1, cap1, rfl⟩ := okWide_slice Try.underlying38 (hval 1 38 v1 rfl rfl)
  have k1 := h1
  have lt1 : ∀ x ∈ p1, x.block < W.heap.size := by obtain ⟨m, hm⟩ := k1; exact DataW.trod_lt m _ _ _ hm
  obtain ⟨z1, w1⟩ : ∃ zs, IsRow .u8 W a1 len1 cap1 zs := by
    obtain ⟨fuel, hf⟩ := h1
    rcases open_ints Try.underlying38 Try.underlying5 (by kernel_rfl) hf with ⟨hcs, _⟩ | ⟨x, l, c, zs, hcs, _, hl, hm, hz, _, hcell, hwz⟩
    · simp [Value.cells] at hcs
      obtain ⟨rfl, rfl, rfl⟩ := hcs
      exact ⟨[], .inl ⟨rfl, rfl, rfl, rfl⟩⟩
    · simp [Value.cells] at hcs
      obtain ⟨rfl, rfl, rfl⟩ := hcs
      exact ⟨zs, .inr ⟨_, rfl, hl, hm, by simpa using hz, hcell, hwz⟩⟩
  clear hA0 hval0
  refine (walk a0 a1 len1 cap1 z1 W w0 w1).mono fun e W' ⟨he, bel⟩ => ?_
  subst he
  exact ⟨_, rfl, _, _, _, [], _, [], hW', trodAll_mk1 (shut_bool Try.underlying4 _), (trodAll_cons_mk (shut_int Try.underlying5 w0) (trodAll_cons_mk (Below.trod laidOut (by kernel_rfl) (of_decide_eq_true (by kernel_rfl)) k1 bel lt1) trodAll_mk0)), rfl, bel.frame _, fun h => by cases h⟩

theorem over : Rows.delaySoonRow.holds Try.pinned (OpenSpec.ofChange Rows.delaySoonSpec) :=
  OpenClaim.holds_of_wide 4 Try.f4 rfl rfl rfl rfl rfl rfl rfl ⟨rfl, rfl, rfl, rfl, rfl⟩ rfl rfl rfl rfl rfl (by kernel_rfl) Try.func4 (by kernel_rfl)
    (of_decide_eq_true (by kernel_rfl)) (by unfold Func.isWrapper; first | (rw [if_pos (by decide +kernel)]; kernel_rfl) | (rw [if_neg (by decide +kernel)]; exact ⟨rfl, rfl⟩))
    (fun os started H enc _ => lifted os started H enc)

/-- ████ THE STATEMENT ████ -/
theorem proved : Rows.DelaySoonSaid := over
#print axioms proved
end Go.Proofs.Ytjemamdldeeebaa.delaySoon

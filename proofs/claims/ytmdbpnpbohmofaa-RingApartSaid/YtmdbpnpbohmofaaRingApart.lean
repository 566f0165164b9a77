/- Proved: 'Rows.RingApartSaid': for every input fairleadlaw05.RingApart returns true, and each argument reads afterwards as before. Conditions: none beyond the given row's own. -/
import Derived.Test.YtmdbpnpbohmofaaRows
import Derived.WalkKit
import Derived.ProofKit
import Derived.OpenShut
import Derived.ShutString
import Derived.ChangeOld
import Derived.ChangeMaps5
import Derived.Below
import Derived.Test.YtmdbpnpbohmofaaShell
import Derived.Test.YtmdbpnpbohmofaaTwo
import Derived.Test.YtmdbpnpbohmofaaWorks
namespace Go.Proofs.Ytmdbpnpbohmofaa.ringApart
open Go.ChangeShapes Go.WideShapes Go.ChangeAt Go.RowKit
open Go.ChangeMaps (open_string shut_string)
set_option linter.unusedVariables false
open M

theorem own : ownKnob Try.prog.godebug = none := by kernel_rfl
theorem laidOut : laidOutB Try.prog = true := by kernel_rfl

attribute [local go_sem] max_i64 min_i64
theorem take_next {l : List Int} {j : Nat} (h : j < l.length) : l.take (j + 1) = l.take j ++ [l.getD j 0] := by
  rw [List.take_succ_eq_append_getElem h]; simp [List.getD_eq_getElem?_getD, h]
theorem take_same {l : List Int} {j : Nat} (h : l.length ≤ j) : l.take (j + 1) = l.take j := by
  rw [List.take_of_length_le (by omega), List.take_of_length_le h]
set_option maxHeartbeats 2000000 in
set_option maxRecDepth 100000 in
theorem walk (a0 : Option Addr) (cap0 : Nat) (l0 : List Int) (a1 : Option Addr) (cap1 : Nat) (l1 : List Int) (w : World) (r0 : Row .u32 w a0 l0) (w0 : ∀ n ∈ l0, (Lit.int .u32 n).wf = true) (r1 : Row .u32 w a1 l1) (w1 : ∀ n ∈ l1, (Lit.int .u32 n).wf = true) :
    Calls Try.prog 7 #[.slice a0 l0.length cap0, .slice a1 l1.length cap1] w fun e w' => e = .returned (.bool true) ∧ Below w.heap.size w w' := by
  have HR0 := Lib.hid r0
  have HR1 := Lib.hid r1
  clear w0 w1 r0 r1
  by_cases hg1 : 300 < (l0.length : Int)
  · go_enter Try.func7, Try.ntmps7
    go_wp2_with (go_at_call 16; (with_reducible refine (works_any _).mono ?_); rintro e w4 ⟨rfl, hB⟩)
    go_ret
    exact ⟨rfl, hB⟩
  by_cases hg2 : 300 < (l1.length : Int)
  · go_enter Try.func7, Try.ntmps7
    go_wp2_with (go_at_call 16; (with_reducible refine (works_any _).mono ?_); rintro e w4 ⟨rfl, hB⟩)
    go_ret
    exact ⟨rfl, hB⟩
  obtain ⟨a, ha⟩ : ∃ a, w.heap.size + 1 = a := ⟨_, rfl⟩
  have C0 := newU 301 301 rfl w (by decide) (by decide)
  rw [ha] at C0
  have CN := Lib.hid C0
  clear ha C0
  go_enter Try.func7, Try.ntmps7
  go_wp2_with fail
  (go_at_call 10; (with_reducible refine CN.out.mono ?_); rintro e w1 ⟨rfl, HH⟩)
  clear CN
  obtain ⟨b, hb⟩ : ∃ b, w1.heap.size + 1 = b := ⟨_, rfl⟩
  have C0 := Two.new HH.out 301 rfl (by decide) (by decide)
  rw [hb] at C0
  have CN := Lib.hid C0
  clear hb C0 HH
  go_wp2_with fail
  (go_at_call 10; (with_reducible refine CN.out.mono ?_); rintro e w2 ⟨rfl, HH⟩)
  clear CN
  have hL0 : (l0.length : Int) ≤ 300 := by omega
  have hL1 : (l1.length : Int) ≤ 300 := by omega
  clear hg1 hg2
  obtain ⟨M, hM⟩ : ∃ M : Nat, mx (l0.length : Int) (l1.length : Int) = M := by
    obtain ⟨q1, q2, q3⟩ := mx_le (l0.length : Int) (l1.length : Int)
    exact ⟨(mx (l0.length : Int) (l1.length : Int)).toNat, by omega⟩
  have hMM : Hid (l0.length ≤ M ∧ l1.length ≤ M ∧ M ≤ 300) := by
    obtain ⟨q1, q2, q3⟩ := mx_le (l0.length : Int) (l1.length : Int)
    rw [hM] at q1 q2 q3
    exact Lib.hid ⟨by omega, by omega, by omega⟩
  go_wp2_with fail
  obtain ⟨wo, hwo⟩ : ∃ wo : World, wo = w2 := ⟨_, rfl⟩
  subst hwo
  go_loopw [9] (fun i wr => ∃ j : Nat, i = .int .i64 j ∧ j ≤ M ∧ Hid (Two w wr a b 301 (l0.take j) (l1.take j))) (fun i _ => M - (intOf i).toNat)
  case atStart => exact ⟨0, rfl, by omega, HH⟩
  case round =>
  clear HH
  obtain ⟨j, rfl, hj, HS⟩ := hrel
  by_cases hlt : j < M
  case neg =>
    obtain rfl : j = M := by omega
    have hd : decide ((j : Int) < (j : Int)) = false := by simp
    have h0 := HS.out
    rw [List.take_of_length_le hMM.out.1, List.take_of_length_le hMM.out.2.1] at h0
    clear HS
    have HS := Lib.hid h0
    clear h0
    go_wp2_with fail
    clear hd hlt hj
    obtain ⟨wi, hwi⟩ : ∃ wi : World, wi = wr := ⟨_, rfl⟩
    subst hwi
    go_loopw [10] (fun _ wr => ∃ ys : List Int, Hid (Two w wr a b 301 l0 ys)) (fun _ wr => count wr b)
    case atStart => exact ⟨_, HS⟩
    case round =>
      clear HS
      obtain ⟨ys, HS⟩ := hrel
      have hcnt := HS.out.count2
      cases ys with
      | nil =>
        clear hcnt
        have CL := Lib.hid (HS.out.len2 0 rfl)
        go_wp2_with fail
        (go_at_call 14; (with_reducible refine CL.out.mono ?_); rintro e w' ⟨rfl, rfl⟩)
        clear CL
        go_wp2_with fail
        have h0 : Two w _ a b 301 (l0.drop 0) [] := HS.out
        have H0 := Lib.hid h0
        clear h0 HS
        obtain ⟨wk, hwk⟩ : ∃ wk : World, wk = wr := ⟨_, rfl⟩
        subst hwk
        go_loopw [11] (fun i wr => ∃ j : Nat, i = .int .i64 j ∧ j ≤ l0.length ∧ Hid (Two w wr a b 301 (l0.drop j) [])) (fun i _ => l0.length - (intOf i).toNat)
        case atStart => exact ⟨0, rfl, by omega, H0⟩
        case round =>
          clear H0
          obtain ⟨q, rfl, hq, HS⟩ := hrel
          by_cases hA : q < l0.length
          · have hA' : (q : Int) < (l0.length : Int) := by omega
            have hdA : decide (q < l0.length) = true := by simpa using hA
            obtain ⟨b0, o0, rfl, hc0⟩ := HR0.out.at_ hA
            obtain ⟨x, hx⟩ : ∃ x, l0.getD q 0 = x := ⟨_, rfl⟩
            have hb0 := World.block_lt_of_cell? w _ hc0
            have h0 := HS.out
            rw [List.drop_eq_getElem_cons hA, show l0[q] = l0.getD q 0 by simp [List.getD_eq_getElem?_getD, hA], hx] at h0
            rw [hx] at hc0
            have CP := Lib.hid h0.pop
            have HC := Lib.hid hc0
            have HB := Lib.hid hb0
            clear h0 HS hx hc0 hb0
            go_wp2_with fail
            (go_at_call 13; (with_reducible refine CP.out.mono ?_); rintro e w3 ⟨rfl, HS⟩)
            clear CP
            have hc0 : w3.cell? ⟨b0, o0 + q, none⟩ = some (.int .u32 x) := by rw [HS.out.below.cell (p := ⟨b0, _, none⟩) HB.out]; exact HC.out
            go_wp2_with fail
            go_roundw
            case rel => exact ⟨q + 1, by go_num, by omega, HS⟩
            case measure => (simp [intOf] <;> omega)
          · obtain rfl : q = l0.length := by omega
            have hd : ¬ (l0.length : Int) < (l0.length : Int) := by omega
            have h0 := HS.out
            rw [List.drop_length] at h0
            have CL := Lib.hid (h0.len 0 rfl)
            have HB := Lib.hid h0.below
            clear h0 HS
            go_wp2_with fail
            (go_at_call 14; (with_reducible refine CL.out.mono ?_); rintro e w' ⟨rfl, rfl⟩)
            go_wp2_with (go_at_call 16; (with_reducible refine (works_any _).mono ?_); rintro e w4 ⟨rfl, hB⟩)
            go_ret
            exact ⟨rfl, HB.out.trans (hB.mono HB.out.size)⟩
      | cons y ys =>
        have HC := Lib.hid hcnt
        have hp2 : (0 : Int) < (ys.length : Int) + 1 := by omega
        have hyb : (ys.length : Int) ≤ 301 := by have := HS.out.swap.holds.bound.1; simp at this; omega
        have CL := Lib.hid (HS.out.len2 ((ys.length : Int) + 1) (by simp))
        have CP := Lib.hid HS.out.pop2
        clear hcnt HS
        go_wp2_with fail
        (go_at_call 14; (with_reducible refine CL.out.mono ?_); rintro e w' ⟨rfl, rfl⟩)
        go_wp2_with fail
        (go_at_call 14; (with_reducible refine CL.out.mono ?_); rintro e w' ⟨rfl, rfl⟩)
        go_wp2_with fail
        (go_at_call 13; (with_reducible refine CP.out.mono ?_); rintro e w3 ⟨rfl, HS⟩)
        clear CL CP
        have CL := Lib.hid (HS.out.len2 (ys.length : Int) rfl)
        have HC2 := Lib.hid HS.out.count2
        go_wp2_with fail
        (go_at_call 14; (with_reducible refine CL.out.mono ?_); rintro e w' ⟨rfl, rfl⟩)
        clear CL
        go_wp2_with fail
        go_roundw
        case rel => exact ⟨ys, HS⟩
        case measure => rw [HC.out, HC2.out]; simp
  have hlt' : (j : Int) < (M : Int) := by omega
  by_cases hA : j < l0.length
  · have hA' : (j : Int) < (l0.length : Int) := by omega
    have hdA : decide (j < l0.length) = true := by simpa using hA
    obtain ⟨b0, o0, rfl, hc0⟩ := HR0.out.at_ hA
    obtain ⟨x, hx⟩ : ∃ x, l0.getD j 0 = x := ⟨_, rfl⟩
    have hb0 := World.block_lt_of_cell? w _ hc0
    rw [hx, ← HS.out.below.cell (p := ⟨b0, _, none⟩) hb0] at hc0
    have CP := Lib.hid (HS.out.push (by have := hMM.out; simp; omega) x)
    have HE : Hid (l0.take (j + 1) = l0.take j ++ [x]) := by rw [← hx]; exact take_next hA
    clear hb0 HS hx
    go_wp2_with fail
    (go_at_call 12; (with_reducible refine CP.out.mono ?_); rintro e w3 ⟨rfl, H3⟩)
    clear CP hc0
    have HS : Hid (Two w w3 a b 301 (l0.take (j + 1)) (l1.take j)) := by rw [HE.out]; exact H3
    clear H3 HE
    by_cases hB : j < l1.length
    · have hB' : (j : Int) < (l1.length : Int) := by omega
      have hdB : decide (j < l1.length) = true := by simpa using hB
      obtain ⟨b1, o1, rfl, hc1⟩ := HR1.out.at_ hB
      obtain ⟨x, hx⟩ : ∃ x, l1.getD j 0 = x := ⟨_, rfl⟩
      have hb1 := World.block_lt_of_cell? w _ hc1
      rw [hx, ← HS.out.below.cell (p := ⟨b1, _, none⟩) hb1] at hc1
      have CP := Lib.hid (HS.out.push2 (by have := hMM.out; simp; omega) x)
      have HE : Hid (l1.take (j + 1) = l1.take j ++ [x]) := by rw [← hx]; exact take_next hB
      clear hb1 HS hx
      go_wp2_with fail
      (go_at_call 12; (with_reducible refine CP.out.mono ?_); rintro e w4 ⟨rfl, H4⟩)
      clear CP hc1
      have HS : Hid (Two w w4 a b 301 (l0.take (j + 1)) (l1.take (j + 1))) := by rw [HE.out]; exact H4
      clear H4 HE
      go_wp2_with fail
      go_roundw
      case rel => exact ⟨j + 1, by go_num, by omega, HS⟩
      case measure => (simp [intOf] <;> omega)
    · have hB' : ¬ (j : Int) < (l1.length : Int) := by omega
      have hdB : decide (j < l1.length) = false := by simpa using hB
      have h4 := HS.out
      rw [← take_same (by omega : l1.length ≤ j)] at h4
      have H4 := Lib.hid h4
      clear h4 HS
      go_wp2_with fail
      go_roundw
      case rel => exact ⟨j + 1, by go_num, by omega, H4⟩
      case measure => (simp [intOf] <;> omega)
  · have hA' : ¬ (j : Int) < (l0.length : Int) := by omega
    have hdA : decide (j < l0.length) = false := by simpa using hA
    have h3 := HS.out
    rw [← take_same (by omega : l0.length ≤ j)] at h3
    clear HS
    have HS := Lib.hid h3
    clear h3
    by_cases hB : j < l1.length
    · have hB' : (j : Int) < (l1.length : Int) := by omega
      have hdB : decide (j < l1.length) = true := by simpa using hB
      obtain ⟨b1, o1, rfl, hc1⟩ := HR1.out.at_ hB
      obtain ⟨x, hx⟩ : ∃ x, l1.getD j 0 = x := ⟨_, rfl⟩
      have hb1 := World.block_lt_of_cell? w _ hc1
      rw [hx, ← HS.out.below.cell (p := ⟨b1, _, none⟩) hb1] at hc1
      have CP := Lib.hid (HS.out.push2 (by have := hMM.out; simp; omega) x)
      have HE : Hid (l1.take (j + 1) = l1.take j ++ [x]) := by rw [← hx]; exact take_next hB
      clear hb1 HS hx
      go_wp2_with fail
      (go_at_call 12; (with_reducible refine CP.out.mono ?_); rintro e w4 ⟨rfl, H4⟩)
      clear CP hc1
      have HS : Hid (Two w w4 a b 301 (l0.take (j + 1)) (l1.take (j + 1))) := by rw [HE.out]; exact H4
      clear H4 HE
      go_wp2_with fail
      go_roundw
      case rel => exact ⟨j + 1, by go_num, by omega, HS⟩
      case measure => (simp [intOf] <;> omega)
    · exfalso
      obtain ⟨_, _, q3⟩ := mx_le (l0.length : Int) (l1.length : Int)
      rw [hM] at q3
      omega

/-! ### The row's step -/
set_option maxRecDepth 100000 in
theorem lifted (os : Os) (started : os.Started) (H : Type) (enc : TypeId × Value → H) :
    ReturnsInHanded {} Try.checked os 7 .any (Rows.ringApartSpec.pre6 enc Try.prog Try.f7 Rows.ringApartRow.domain false) (Rows.ringApartSpec.post enc Try.prog Try.f7 false true false false) := by
  refine returnsInHanded_of_change (C := Try.checked) own started (by kernel_rfl) Try.func7
    (ChangeSpec.witness6 (enc := enc) (C := Try.checked) false ⟨#[], #[.slice none 0 0, .slice none 0 0], []⟩ 8 (by kernel_rfl) (by kernel_rfl) (by kernel_rfl) (by kernel_rfl)) ?_
  intro W base args ds gs before hval0 hW hcnd _
  have hval : ∀ (j : Nat) t v, Try.f7.params[j]? = some t → args[j]? = some v → Value.okWide Try.prog W .any base t v := hval0
  have hW' := hW
  obtain ⟨p, q, hA0, hV, rfl, hfz, hnd⟩ := hW
  have hA : DataW.TrodAll enc Try.prog W 0 (fun _ => true) true Try.f7.params.toList args.toList ds p := hA0
  rw [Try.params7] at hA hval
  obtain ⟨v0, vs0, d0, ds0, p0, q0, hargs, rfl, rfl, h0, rr0⟩ := trodAll_cons hA
  obtain ⟨v1, vs1, d1, ds1, p1, q1, rfl, rfl, rfl, h1, rr1⟩ := trodAll_cons rr0
  obtain ⟨rfl, rfl, rfl⟩ := trodAll_nil rr1
  obtain rfl : args = #[v0, v1] := by cases args; simp_all
  obtain ⟨rfl, rfl⟩ := trodVars_none hV
  obtain ⟨a0, len0, cap0, rfl⟩ := okWide_slice Try.underlying40 (hval 0 40 v0 rfl rfl)
  have k0 := h0
  have lt0 : ∀ x ∈ p0, x.block < W.heap.size := by obtain ⟨m, hm⟩ := k0; exact DataW.trod_lt m _ _ _ hm
  obtain ⟨l0, rfl, r0, w0⟩ : ∃ L : List Int, L.length = len0 ∧ Row .u32 W a0 L ∧ (∀ n ∈ L, (Lit.int .u32 n).wf = true) := by
    obtain ⟨fuel, hf⟩ := h0
    rcases open_ints Try.underlying40 Try.underlying23 (by kernel_rfl) hf with ⟨hcs, _⟩ | ⟨x, l, c, zs, hcs, _, hl, hm, hz, _, hcell, hwz⟩
    · simp [Value.cells] at hcs
      obtain ⟨rfl, rfl, rfl⟩ := hcs
      exact ⟨[], rfl, .inl rfl, fun _ h => by cases h⟩
    · simp [Value.cells] at hcs
      obtain ⟨rfl, rfl, rfl⟩ := hcs
      obtain ⟨L, e1, e2, _, e3, _⟩ := row_of (k := .u32) (w := W) (a := some x) (len := len0) (cap := cap0) (zs := zs) (.inr ⟨_, rfl, hl, hm, by simpa using hz, hcell, hwz⟩)
      exact ⟨L, e1, e2, e3⟩
  obtain ⟨a1, len1, cap1, rfl⟩ := okWide_slice Try.underlying40 (hval 1 40 v1 rfl rfl)
  have k1 := h1
  have lt1 : ∀ x ∈ p1, x.block < W.heap.size := by obtain ⟨m, hm⟩ := k1; exact DataW.trod_lt m _ _ _ hm
  obtain ⟨l1, rfl, r1, w1⟩ : ∃ L : List Int, L.length = len1 ∧ Row .u32 W a1 L ∧ (∀ n ∈ L, (Lit.int .u32 n).wf = true) := by
    obtain ⟨fuel, hf⟩ := h1
    rcases open_ints Try.underlying40 Try.underlying23 (by kernel_rfl) hf with ⟨hcs, _⟩ | ⟨x, l, c, zs, hcs, _, hl, hm, hz, _, hcell, hwz⟩
    · simp [Value.cells] at hcs
      obtain ⟨rfl, rfl, rfl⟩ := hcs
      exact ⟨[], rfl, .inl rfl, fun _ h => by cases h⟩
    · simp [Value.cells] at hcs
      obtain ⟨rfl, rfl, rfl⟩ := hcs
      obtain ⟨L, e1, e2, _, e3, _⟩ := row_of (k := .u32) (w := W) (a := some x) (len := len1) (cap := cap1) (zs := zs) (.inr ⟨_, rfl, hl, hm, by simpa using hz, hcell, hwz⟩)
      exact ⟨L, e1, e2, e3⟩
  clear hA0 hval0
  refine (walk a0 cap0 l0 a1 cap1 l1 W r0 w0 r1 w1).mono fun e W' ⟨he, bel⟩ => ?_
  subst he
  exact ⟨_, rfl, _, _, _, [], _, [], hW', trodAll_mk1 (shut_bool Try.underlying4 _), (trodAll_cons_mk (Below.trod laidOut (by kernel_rfl) (of_decide_eq_true (by kernel_rfl)) k0 bel lt0) (trodAll_cons_mk (Below.trod laidOut (by kernel_rfl) (of_decide_eq_true (by kernel_rfl)) k1 bel lt1) trodAll_mk0)), rfl, bel.frame _, fun h => by cases h⟩

theorem over : Rows.ringApartRow.holds Try.pinned (OpenSpec.ofChange Rows.ringApartSpec) :=
  OpenClaim.holds_of_wide 7 Try.f7 rfl rfl rfl rfl rfl rfl rfl ⟨rfl, rfl, rfl, rfl, rfl⟩ rfl rfl rfl rfl rfl (by kernel_rfl) Try.func7 (by kernel_rfl)
    (of_decide_eq_true (by kernel_rfl)) (by unfold Func.isWrapper; first | (rw [if_pos (by decide +kernel)]; kernel_rfl) | (rw [if_neg (by decide +kernel)]; exact ⟨rfl, rfl⟩))
    (fun os started H enc _ => lifted os started H enc)

/-- The statement. -/
theorem proved : Rows.RingApartSaid := over
#print axioms proved
end Go.Proofs.Ytmdbpnpbohmofaa.ringApart

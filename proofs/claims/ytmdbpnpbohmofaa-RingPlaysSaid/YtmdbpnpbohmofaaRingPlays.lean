/- Proved: 'Rows.RingPlaysSaid': for every input fairleadlaw05.RingPlays returns true, and each argument reads afterwards as before. Conditions: none beyond the given row's own. -/
import Derived.Test.YtmdbpnpbohmofaaRows
import Derived.WalkKit
import Derived.ProofKit
import Derived.OpenShut
import Derived.ShutString
import Derived.ChangeOld
import Derived.ChangeMaps5
import Derived.Below
import Derived.Test.YtmdbpnpbohmofaaOps
import Derived.Test.YtmdbpnpbohmofaaBoth
import Derived.Test.YtmdbpnpbohmofaaWorks
import Derived.Deep.RegionHeld3
import Derived.IntWalk
namespace Go.Proofs.Ytmdbpnpbohmofaa.ringPlays
open Go.ChangeShapes Go.WideShapes Go.ChangeAt Go.RowKit
open Go.ChangeMaps (open_string shut_string)
set_option linter.unusedVariables false
open M

theorem own : ownKnob Try.prog.godebug = none := by kernel_rfl
theorem laidOut : laidOutB Try.prog = true := by kernel_rfl

set_option maxHeartbeats 4000000 in
set_option maxRecDepth 100000 in
theorem walk (a0 : Int) (a1 : Option Addr) (cap1 : Nat) (l1 : List M.Op) (w : World) (w0 : (Lit.int .i64 a0).wf = true) (r1 : OpRow w a1 l1) (w1 : OpsFit l1) :
    Calls Try.prog 9 #[.int .i64 a0, .slice a1 l1.length cap1] w fun e w' => e = .returned (.bool true) ∧ Below w.heap.size w w' := by
  have hb := wf_i64 w0
  have HR := Lib.hid r1
  clear w0 w1 r1
  by_cases hg1 : 300 < (l1.length : Int)
  · have hd : decide (300 < l1.length) = true := by simp; omega
    go_enter Try.func9, Try.ntmps9
    go_wp2_with (go_at_call 16; (with_reducible refine (works_any _).mono ?_); rintro e w4 ⟨rfl, hB⟩)
    go_ret
    exact ⟨rfl, hB⟩
  have hL1 : (l1.length : Int) ≤ 300 := by omega
  have hd : decide (300 < l1.length) = false := by simp; omega
  clear hg1
  by_cases hg2 : 2000 < a0 ∧ a0 ≤ 1048576
  · obtain ⟨g1, g2⟩ := hg2
    have d1 : decide (a0 ≤ 1048576) = true := by simpa using g2
    go_enter Try.func9, Try.ntmps9
    go_wp2_with (go_at_call 16; (with_reducible refine (works_any _).mono ?_); rintro e w4 ⟨rfl, hB⟩)
    go_ret
    exact ⟨rfl, hB⟩
  by_cases hg3 : 1 ≤ a0 ∧ a0 ≤ 1048576
  case neg =>
    have hg4 : (a0 < 1 ∧ ¬ 2000 < a0) ∨ (1048576 < a0 ∧ 2000 < a0 ∧ ¬ a0 ≤ 1048576) := by omega
    have CA := Lib.hid (newS_bad a0 w hg3)
    have CB := Lib.hid (refNew_bad a0 w hg3)
    have hz : (0 : Int) ≤ (l1.length : Int) := by omega
    clear hg2 hg3
    by_cases hl0 : l1.length = 0
    · have hl0' : (l1.length : Int) = 0 := by omega
      have hdl : decide ((0 : Int) < (l1.length : Int)) = false := decide_eq_false (by omega)
      have hdl2 : decide (0 < l1.length) = false := decide_eq_false (by omega)
      have HL0 := Lib.hid hl0
      clear hl0 hl0'
      rcases hg4 with ⟨g1, g2⟩ | ⟨g1, g2, g3⟩
      all_goals
        go_enter Try.func9, Try.ntmps9
        go_wp2_with fail
        (go_at_call 30; (with_reducible refine CA.out.mono ?_); rintro e w' ⟨rfl, rfl⟩)
        go_wp2_with fail
        (go_at_call 31; (with_reducible refine CB.out.mono ?_); rintro e w' ⟨rfl, rfl⟩)
        go_wp2_with fail
        refine wp_loop_rounds 1 ?_
        rw [rounds_succ]
        go_wp2_with (go_at_call 16; (with_reducible refine (works_any _).mono ?_); rintro e w4 ⟨rfl, hB⟩)
        go_ret
        exact ⟨rfl, hB⟩
    · have hdl : decide ((0 : Int) < (l1.length : Int)) = true := decide_eq_true (by omega)
      have hdl2 : decide (0 < l1.length) = true := decide_eq_true (by omega)
      have hdl3 : (0 : Int) < (l1.length : Int) := by omega
      clear hl0
      rcases hg4 with ⟨g1, g2⟩ | ⟨g1, g2, g3⟩
      all_goals
        go_enter Try.func9, Try.ntmps9
        go_wp2_with fail
        (go_at_call 30; (with_reducible refine CA.out.mono ?_); rintro e w' ⟨rfl, rfl⟩)
        go_wp2_with fail
        (go_at_call 31; (with_reducible refine CB.out.mono ?_); rintro e w' ⟨rfl, rfl⟩)
        go_wp2_with fail
        refine wp_loop_rounds 1 ?_
        rw [rounds_succ]
        go_wp2_with (go_at_call 16; (with_reducible refine (works_any _).mono ?_); rintro e w4 ⟨rfl, hB⟩)
        go_ret
        exact ⟨rfl, hB⟩
  obtain ⟨g1, g2⟩ := hg3
  obtain ⟨n, rfl⟩ : ∃ n : Nat, a0 = n := ⟨a0.toNat, by omega⟩
  have g3 : ¬ 2000 < (n : Int) := by omega
  clear hg2 hb
  obtain ⟨b, hb⟩ : ∃ b, w.heap.size + 1 = b := ⟨_, rfl⟩
  have C0 := newS n n rfl w g1 g2
  rw [hb] at C0
  have CN := Lib.hid C0
  clear hb C0
  go_enter Try.func9, Try.ntmps9
  go_wp2_with fail
  (go_at_call 30; (with_reducible refine CN.out.mono ?_); rintro e w1 ⟨rfl, HH⟩)
  clear CN
  obtain ⟨q, hq⟩ : ∃ q, w1.heap.size = q := ⟨_, rfl⟩
  have C0 := refNew_good n n rfl w1 g1 g2
  rw [hq] at C0
  have CN := Lib.hid C0
  have HQ := Lib.hid hq
  clear hq C0
  go_wp2_with fail
  (go_at_call 31; (with_reducible refine CN.out.mono ?_); rintro e w2 ⟨rfl, hw2⟩)
  have HS : Hid (Both w w2 b q n [] []) := by rw [← HQ.out]; exact newBoth HH.out (by omega) hw2.out
  clear CN HH hw2 HQ hd
  go_wp2_with fail
  obtain ⟨wo, hwo⟩ : ∃ wo : World, wo = w2 := ⟨_, rfl⟩
  subst hwo
  go_loopw [9] (fun i wr => ∃ (j : Nat) (l : List ByteArray), i = .int .i64 j ∧ j ≤ l1.length ∧ Hid (Both w wr b q n l l)) (fun i _ => l1.length - (intOf i).toNat)
  case atStart => exact ⟨0, [], rfl, by omega, HS⟩
  case round =>
  clear HS
  obtain ⟨j, l, rfl, hj, HS⟩ := hrel
  by_cases hlt : j < l1.length
  case neg =>
    obtain rfl : j = l1.length := by omega
    have hlt' : ¬ (l1.length : Int) < (l1.length : Int) := by omega
    have hd : decide ((l1.length : Int) < (l1.length : Int)) = false := by simp
    have hd2 : decide (l1.length < l1.length) = false := by simp
    have HB := Lib.hid HS.out.below
    clear HS
    go_wp2_with (go_at_call 16; (with_reducible refine (works_any _).mono ?_); rintro e w4 ⟨rfl, hB⟩)
    go_ret
    exact ⟨rfl, HB.out.trans (hB.mono HB.out.size)⟩
  have hlt' : (j : Int) < (l1.length : Int) := by omega
  have hd : decide (j < l1.length) = true := by simpa using hlt
  obtain ⟨bb, off, rfl, hc0, hc1, hc2⟩ := HR.out.at_ hlt
  obtain ⟨kd, hkd⟩ : ∃ c, (l1.getD j default).kind = c := ⟨_, rfl⟩
  obtain ⟨s, hs⟩ : ∃ c, (l1.getD j default).text = c := ⟨_, rfl⟩
  obtain ⟨c, hcd⟩ : ∃ c, (l1.getD j default).at_ = c := ⟨_, rfl⟩
  rw [hkd] at hc0
  rw [hs] at hc1
  rw [hcd] at hc2
  clear hkd hs hcd
  have hbb : bb < w.heap.size := World.block_lt_of_cell? w _ hc0
  have HC : Hid (∀ w', Below w.heap.size w w' → w'.cell? ⟨bb, off + j * 3 + 1, none⟩ = some (.string s) ∧ w'.cell? ⟨bb, off + j * 3 + 2, none⟩ = some (.int .i64 c)) := fun w' hb => by rw [hb.cell (p := ⟨bb, off + j * 3 + 1, none⟩) hbb, hb.cell (p := ⟨bb, off + j * 3 + 2, none⟩) hbb]; exact ⟨hc1, hc2⟩
  rw [← HS.out.below.cell (p := ⟨bb, off + j * 3, none⟩) hbb] at hc0
  obtain ⟨hc1, hc2⟩ := HC.out _ HS.out.below
  clear hbb
  by_cases hk0 : kd = 0
  · subst hk0
    clear hc1 hc2
    have HD := Lib.hid HS.out.drew
    by_cases hm : l.length < n
    · have CA := Lib.hid (pushA HD.out hm s)
      have HM := Lib.hid hm
      clear HS hm
      go_wp2_with fail
      clear hc0
      go_region_held3 (fun w' => w'.cell? ⟨bb, off + j * 3 + 1, none⟩ = some (.string s)) (first | exact (HC.out _ h7.out.below).1 | exact (HC.out _ h6.out.below).1 | exact (HC.out _ HD.out.below).1) (first
        | (go_at_call 20; (with_reducible refine CA.out.mono ?_); rintro e w6 ⟨rfl, h6⟩)
        | (go_at_call 32; (with_reducible refine (pushB h6.out HM.out s).mono ?_); rintro e w7 ⟨rfl, h7⟩))
      all_goals
        have HS := h7
        clear h6 h7 CA HM HC
        obtain ⟨l', hl'⟩ : ∃ l', l ++ [s] = l' := ⟨_, rfl⟩
        rw [hl'] at HS
        clear hl'
        go_wp2_with fail
        obtain ⟨hq0, AA, cc, hq1⟩ := cellsB HS.out
        have hbd := HS.out.bound
        have t1 : (l'.length : Int) ≤ (n : Int) := by omega
        have t2 : (n : Int) ≤ 1048576 := by omega
        have t3 : IntKind.i64.wrap ((n : Int) - (l'.length : Int)) = (n : Int) - (l'.length : Int) := IntWalk.i64_in _ (by omega)
        have HW := Lib.hid (fun (k : Nat) => lenQ HS.out k)
        have HR2 := Lib.hid (fun (k : Nat) => roomQ HS.out k)
        clear hbd
        go_quiet ((first | (go_at_call 21; exact HW.out _) | (go_at_call 22; exact HR2.out _)))
        have HS2 := Lib.hid (HS.out.drewN nq)
        clear HS HW HR2 hq0 hq1 t1 t3
        go_wp2_with fail
        go_roundw
        case rel => exact ⟨j + 1, l', by go_num, by omega, HS2⟩
        case measure => (simp [intOf] <;> omega)
    · have hm' : l.length = n := by have := HS.out.bound; omega
      have CA := Lib.hid (pushA_no HD.out hm' s)
      have HM := Lib.hid hm'
      clear HS hm hm'
      go_wp2_with fail
      clear hc0
      go_region_held3 (fun w' => w'.cell? ⟨bb, off + j * 3 + 1, none⟩ = some (.string s)) (first | exact (HC.out _ h7.out.below).1 | exact (HC.out _ h6.out.below).1 | exact (HC.out _ HD.out.below).1) (first
        | (go_at_call 20; (with_reducible refine CA.out.mono ?_); rintro e w6 ⟨rfl, h6⟩)
        | (go_at_call 32; (with_reducible refine (pushB_no h6.out HM.out s).mono ?_); rintro e w7 ⟨rfl, h7⟩))
      all_goals
        have HS := h7
        clear h6 h7 CA HM HC
        go_wp2_with fail
        obtain ⟨hq0, AA, cc, hq1⟩ := cellsB HS.out
        have hbd := HS.out.bound
        have t1 : (l.length : Int) ≤ (n : Int) := by omega
        have t2 : (n : Int) ≤ 1048576 := by omega
        have t3 : IntKind.i64.wrap ((n : Int) - (l.length : Int)) = (n : Int) - (l.length : Int) := IntWalk.i64_in _ (by omega)
        have HW := Lib.hid (fun (k : Nat) => lenQ HS.out k)
        have HR2 := Lib.hid (fun (k : Nat) => roomQ HS.out k)
        clear hbd
        go_quiet ((first | (go_at_call 21; exact HW.out _) | (go_at_call 22; exact HR2.out _)))
        have HS2 := Lib.hid (HS.out.drewN nq)
        clear HS HW HR2 hq0 hq1 t1 t3
        go_wp2_with fail
        go_roundw
        case rel => exact ⟨j + 1, l, by go_num, by omega, HS2⟩
        case measure => (simp [intOf] <;> omega)
  have hk0' : (kd == 0) = false := by simpa using hk0
  by_cases hk1 : kd = 1
  · subst hk1
    clear hc1 hc2
    cases l with
    | nil =>
      go_wp2_with fail
      (go_at_call 18; (with_reducible refine (popA_no HS.out).mono ?_); rintro e w' ⟨rfl, rfl⟩)
      go_wp2_with fail
      (go_at_call 33; (with_reducible refine (popB_no HS.out).mono ?_); rintro e w' ⟨rfl, rfl⟩)
      clear HC hc0
      go_wp2_with fail
      obtain ⟨hq0, AA, cc, hq1⟩ := cellsB HS.out
      have hbd := HS.out.bound
      have t1 : (([] : List ByteArray).length : Int) ≤ (n : Int) := by omega
      have t2 : (n : Int) ≤ 1048576 := by omega
      have t3 : IntKind.i64.wrap ((n : Int) - (([] : List ByteArray).length : Int)) = (n : Int) - (([] : List ByteArray).length : Int) := IntWalk.i64_in _ (by omega)
      have HW := Lib.hid (fun (k : Nat) => lenQ HS.out k)
      have HR2 := Lib.hid (fun (k : Nat) => roomQ HS.out k)
      clear hbd
      go_quiet ((first | (go_at_call 21; exact HW.out _) | (go_at_call 22; exact HR2.out _)))
      have HS2 := Lib.hid (HS.out.drewN nq)
      clear HS HW HR2 hq0 hq1 t1 t3
      go_wp2_with fail
      go_roundw
      case rel => exact ⟨j + 1, ([] : List ByteArray), by go_num, by omega, HS2⟩
      case measure => (simp [intOf] <;> omega)
    | cons x l =>
      have CA := Lib.hid (popA HS.out)
      clear HS
      go_wp2_with fail
      (go_at_call 18; (with_reducible refine CA.out.mono ?_); rintro e w3 ⟨rfl, H3⟩)
      clear CA hc0
      have CB := Lib.hid (popB H3.out)
      clear H3
      go_wp2_with fail
      (go_at_call 33; (with_reducible refine CB.out.mono ?_); rintro e w4 ⟨rfl, HS⟩)
      clear CB HC
      go_wp2_with fail
      obtain ⟨hq0, AA, cc, hq1⟩ := cellsB HS.out
      have hbd := HS.out.bound
      have t1 : (l.length : Int) ≤ (n : Int) := by omega
      have t2 : (n : Int) ≤ 1048576 := by omega
      have t3 : IntKind.i64.wrap ((n : Int) - (l.length : Int)) = (n : Int) - (l.length : Int) := IntWalk.i64_in _ (by omega)
      have HW := Lib.hid (fun (k : Nat) => lenQ HS.out k)
      have HR2 := Lib.hid (fun (k : Nat) => roomQ HS.out k)
      clear hbd
      go_quiet ((first | (go_at_call 21; exact HW.out _) | (go_at_call 22; exact HR2.out _)))
      have HS2 := Lib.hid (HS.out.drewN nq)
      clear HS HW HR2 hq0 hq1 t1 t3
      go_wp2_with fail
      go_roundw
      case rel => exact ⟨j + 1, l, by go_num, by omega, HS2⟩
      case measure => (simp [intOf] <;> omega)
  have hk1' : (kd == 1) = false := by simpa using hk1
  by_cases hk2 : kd = 2
  · subst hk2
    clear hc1
    by_cases hi : c < 0 ∨ (l.length : Int) ≤ c
    · have CA := Lib.hid (atA_no HS.out c hi)
      have CB := Lib.hid (atB_no HS.out c hi)
      clear hi
      go_wp2_with fail
      (go_at_call 19; (with_reducible refine CA.out.mono ?_); rintro e w' ⟨rfl, rfl⟩)
      go_wp2_with fail
      (go_at_call 34; (with_reducible refine CB.out.mono ?_); rintro e w' ⟨rfl, rfl⟩)
      clear CA CB HC hc0 hc2
      go_wp2_with fail
      obtain ⟨hq0, AA, cc, hq1⟩ := cellsB HS.out
      have hbd := HS.out.bound
      have t1 : (l.length : Int) ≤ (n : Int) := by omega
      have t2 : (n : Int) ≤ 1048576 := by omega
      have t3 : IntKind.i64.wrap ((n : Int) - (l.length : Int)) = (n : Int) - (l.length : Int) := IntWalk.i64_in _ (by omega)
      have HW := Lib.hid (fun (k : Nat) => lenQ HS.out k)
      have HR2 := Lib.hid (fun (k : Nat) => roomQ HS.out k)
      clear hbd
      go_quiet ((first | (go_at_call 21; exact HW.out _) | (go_at_call 22; exact HR2.out _)))
      have HS2 := Lib.hid (HS.out.drewN nq)
      clear HS HW HR2 hq0 hq1 t1 t3
      go_wp2_with fail
      go_roundw
      case rel => exact ⟨j + 1, l, by go_num, by omega, HS2⟩
      case measure => (simp [intOf] <;> omega)
    · obtain ⟨k, rfl⟩ : ∃ k : Nat, c = k := ⟨c.toNat, by omega⟩
      have hk : k < l.length := by omega
      obtain ⟨x, hx⟩ : ∃ x, l[k]? = some x := ⟨l[k], List.getElem?_eq_getElem hk⟩
      have CA := Lib.hid (atA HS.out k x hx)
      have HX := Lib.hid hx
      clear HS hi hk hx
      go_wp2_with fail
      (go_at_call 19; (with_reducible refine CA.out.mono ?_); rintro e w3 ⟨rfl, HS⟩)
      clear CA hc0 hc2
      have hc2 : w3.cell? ⟨bb, off + j * 3 + 2, none⟩ = some (.int .i64 k) := (HC.out _ HS.out.below).2
      have CB := Lib.hid (atB HS.out k x HX.out)
      go_wp2_with fail
      (go_at_call 34; (with_reducible refine CB.out.mono ?_); rintro e w' ⟨rfl, rfl⟩)
      clear CB HC hc2 HX
      go_wp2_with fail
      obtain ⟨hq0, AA, cc, hq1⟩ := cellsB HS.out
      have hbd := HS.out.bound
      have t1 : (l.length : Int) ≤ (n : Int) := by omega
      have t2 : (n : Int) ≤ 1048576 := by omega
      have t3 : IntKind.i64.wrap ((n : Int) - (l.length : Int)) = (n : Int) - (l.length : Int) := IntWalk.i64_in _ (by omega)
      have HW := Lib.hid (fun (k : Nat) => lenQ HS.out k)
      have HR2 := Lib.hid (fun (k : Nat) => roomQ HS.out k)
      clear hbd
      go_quiet ((first | (go_at_call 21; exact HW.out _) | (go_at_call 22; exact HR2.out _)))
      have HS2 := Lib.hid (HS.out.drewN nq)
      clear HS HW HR2 hq0 hq1 t1 t3
      go_wp2_with fail
      go_roundw
      case rel => exact ⟨j + 1, l, by go_num, by omega, HS2⟩
      case measure => (simp [intOf] <;> omega)
  have hk2' : (kd == 2) = false := by simpa using hk2
  by_cases hk3 : kd = 3
  · subst hk3
    have CA := Lib.hid (clearA HS.out)
    clear HS hc1 hc2
    go_wp2_with fail
    (go_at_call 17; (with_reducible refine CA.out.mono ?_); rintro e w3 ⟨rfl, H3⟩)
    clear CA hc0
    obtain ⟨⟨AA, cc, hq1⟩, hqf, hB3⟩ := clearB H3.out
    have HS := Lib.hid hB3
    clear hB3 H3 HC
    go_wp2_with fail
    generalize w3.setCell ⟨q, 1, none⟩ (.slice none 0 0) = w4 at HS ⊢
    clear hq1 hqf
    obtain ⟨hq0, A2, c2, hq1⟩ := cellsB HS.out
    have hbd := HS.out.bound
    have t1 : (([] : List ByteArray).length : Int) ≤ (n : Int) := by omega
    have t2 : (n : Int) ≤ 1048576 := by omega
    have t3 : IntKind.i64.wrap ((n : Int) - (([] : List ByteArray).length : Int)) = (n : Int) - (([] : List ByteArray).length : Int) := IntWalk.i64_in _ (by omega)
    have HW := Lib.hid (fun (k : Nat) => lenQ HS.out k)
    have HR2 := Lib.hid (fun (k : Nat) => roomQ HS.out k)
    clear hbd
    go_quiet ((first | (go_at_call 21; exact HW.out _) | (go_at_call 22; exact HR2.out _)))
    have HS2 := Lib.hid (HS.out.drewN nq)
    clear HS HW HR2 hq0 hq1 t1 t3
    go_wp2_with fail
    go_roundw
    case rel => exact ⟨j + 1, ([] : List ByteArray), by go_num, by omega, HS2⟩
    case measure => (simp [intOf] <;> omega)
  have hk3' : (kd == 3) = false := by simpa using hk3
  clear hc1 hc2
  go_wp2_with fail
  clear hc0 HC
  obtain ⟨hq0, AA, cc, hq1⟩ := cellsB HS.out
  have hbd := HS.out.bound
  have t1 : (l.length : Int) ≤ (n : Int) := by omega
  have t2 : (n : Int) ≤ 1048576 := by omega
  have t3 : IntKind.i64.wrap ((n : Int) - (l.length : Int)) = (n : Int) - (l.length : Int) := IntWalk.i64_in _ (by omega)
  have HW := Lib.hid (fun (k : Nat) => lenQ HS.out k)
  have HR2 := Lib.hid (fun (k : Nat) => roomQ HS.out k)
  clear hbd
  go_quiet ((first | (go_at_call 21; exact HW.out _) | (go_at_call 22; exact HR2.out _)))
  have HS2 := Lib.hid (HS.out.drewN nq)
  clear HS HW HR2 hq0 hq1 t1 t3
  go_wp2_with fail
  go_roundw
  case rel => exact ⟨j + 1, l, by go_num, by omega, HS2⟩
  case measure => (simp [intOf] <;> omega)

/-! ### The row's step -/
set_option maxRecDepth 100000 in
theorem lifted (os : Os) (started : os.Started) (H : Type) (enc : TypeId × Value → H) :
    ReturnsInHanded {} Try.checked os 9 .any (Rows.ringPlaysSpec.pre6 enc Try.prog Try.f9 Rows.ringPlaysRow.domain false) (Rows.ringPlaysSpec.post enc Try.prog Try.f9 false true false false) := by
  refine returnsInHanded_of_change (C := Try.checked) own started (by kernel_rfl) Try.func9
    (ChangeSpec.witness6 (enc := enc) (C := Try.checked) false ⟨#[], #[.int .i64 0, .slice none 0 0], []⟩ 8 (by kernel_rfl) (by kernel_rfl) (by kernel_rfl) (by kernel_rfl)) ?_
  intro W base args ds gs before hval0 hW hcnd _
  have hval : ∀ (j : Nat) t v, Try.f9.params[j]? = some t → args[j]? = some v → Value.okWide Try.prog W .any base t v := hval0
  have hW' := hW
  obtain ⟨p, q, hA0, hV, rfl, hfz, hnd⟩ := hW
  have hA : DataW.TrodAll enc Try.prog W 0 (fun _ => true) true Try.f9.params.toList args.toList ds p := hA0
  rw [Try.params9] at hA hval
  obtain ⟨v0, vs0, d0, ds0, p0, q0, hargs, rfl, rfl, h0, rr0⟩ := trodAll_cons hA
  obtain ⟨v1, vs1, d1, ds1, p1, q1, rfl, rfl, rfl, h1, rr1⟩ := trodAll_cons rr0
  obtain ⟨rfl, rfl, rfl⟩ := trodAll_nil rr1
  obtain rfl : args = #[v0, v1] := by cases args; simp_all
  obtain ⟨rfl, rfl⟩ := trodVars_none hV
  obtain ⟨a0, rfl, rfl, rfl, w0⟩ := open_int Try.underlying3 (hval 0 3 v0 rfl rfl) h0
  obtain ⟨a1, len1, cap1, rfl⟩ := okWide_slice Try.underlying58 (hval 1 58 v1 rfl rfl)
  have k1 := h1
  have lt1 : ∀ x ∈ p1, x.block < W.heap.size := by obtain ⟨m, hm⟩ := k1; exact DataW.trod_lt m _ _ _ hm
  obtain ⟨l1, rfl, r1, w1⟩ : ∃ L : List M.Op, L.length = len1 ∧ OpRow W a1 L ∧ OpsFit L := by
    obtain ⟨fuel, hf⟩ := h1
    exact ops_of (by simpa [Value.cells] using hf)
  clear hA0 hval0
  refine (walk a0 a1 cap1 l1 W w0 r1 w1).mono fun e W' ⟨he, bel⟩ => ?_
  subst he
  exact ⟨_, rfl, _, _, _, [], _, [], hW', trodAll_mk1 (shut_bool Try.underlying4 _), (trodAll_cons_mk (shut_int Try.underlying3 w0) (trodAll_cons_mk (Below.trod laidOut (by kernel_rfl) (of_decide_eq_true (by kernel_rfl)) k1 bel lt1) trodAll_mk0)), rfl, bel.frame _, fun h => by cases h⟩

theorem over : Rows.ringPlaysRow.holds Try.pinned (OpenSpec.ofChange Rows.ringPlaysSpec) :=
  OpenClaim.holds_of_wide 9 Try.f9 rfl rfl rfl rfl rfl rfl rfl ⟨rfl, rfl, rfl, rfl, rfl⟩ rfl rfl rfl rfl rfl (by kernel_rfl) Try.func9 (by kernel_rfl)
    (of_decide_eq_true (by kernel_rfl)) (by unfold Func.isWrapper; first | (rw [if_pos (by decide +kernel)]; kernel_rfl) | (rw [if_neg (by decide +kernel)]; exact ⟨rfl, rfl⟩))
    (fun os started H enc _ => lifted os started H enc)

/-- The statement. -/
theorem proved : Rows.RingPlaysSaid := over
#print axioms proved
end Go.Proofs.Ytmdbpnpbohmofaa.ringPlays

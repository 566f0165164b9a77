/- Proved: 'Rows.DelayPlaysSaid': for every input fairleadlaw16.DelayPlays returns true, and each argument reads afterwards as before. Conditions: none beyond the given row's own. (The frame round the walk was written by the kit's proof-skeleton.mjs.) -/
import Derived.Test.YtjemamdldeeebaaRows
import Derived.WalkKit
import Derived.ProofKit
import Derived.OpenShut
import Derived.ShutString
import Derived.ChangeOld
import Derived.Below
import Derived.Test.YtjemamdldeeebaaOps
import Derived.Test.YtjemamdldeeebaaWalkC
import Derived.Test.YtjemamdldeeebaaPair
import Derived.Deep.RegionHeld3
namespace Go.Proofs.Ytjemamdldeeebaa.delayPlays
open Go.ChangeShapes Go.WideShapes Go.ChangeAt Go.RowKit
open Go.ChangeMaps (open_string shut_string)
set_option linter.unusedVariables false
open M
attribute [local go_sem] max_i64 min_i64

theorem own : ownKnob Try.prog.godebug = none := by kernel_rfl
theorem laidOut : laidOutB Try.prog = true := by kernel_rfl

/-! ### STEP 1: THE WALK: the Go text returns true, AND WRITES NOTHING THAT WAS THERE: 'Below w.heap.size w w'' (Derived/Below.lean: '.refl', '.alloc', '.drew', '.setCell' at a new block, '.trans'). Open each 'IsRow' by 'rcases' AHEAD of 'go_enter'; part every test ahead of the walk. -/
set_option maxHeartbeats 16000000 in
set_option maxRecDepth 100000 in
theorem walk (a0 : Int) (a1 : Option Addr) (cap1 : Nat) (L : List M.Op) (w : World) (w0 : (Lit.int .i64 a0).wf = true) (hr : OpRow w a1 L) (hL : OpsFit L) :
    Calls Try.prog 3 #[.int .i64 a0, .slice a1 L.length cap1] w fun e w' => e = .returned (.bool true) ∧ Below w.heap.size w w' := by
  have HR := Lib.hid hr
  clear w0 hr hL
  by_cases hbig : 300 < L.length
  · go_enter Try.func3, Try.ntmps3
    go_wp2_with (go_at_call 9; (with_reducible refine (works_any _).mono ?_); rintro e w' ⟨rfl, hB⟩)
    go_ret
    exact ⟨rfl, hB⟩
  have hlen : L.length ≤ 300 := by omega
  by_cases hf : (0 ≤ a0 ∧ a0 ≤ 1048576)
  case neg =>
    go_enter Try.func3, Try.ntmps3
    go_wp2_with (first
      | (go_at_call 10; (with_reducible refine (new_bad _ _ hf).mono ?_); rintro e w' ⟨rfl, rfl⟩)
      | (go_at_call 11; (with_reducible refine (refNew_bad _ _ hf).mono ?_); rintro e w' ⟨rfl, rfl⟩))
    clear hf
    have HH : Hid (∃ r : R, Pair w w none none r r) := ⟨made 0, Below.refl _ _, .inl ⟨rfl, rfl⟩⟩
    go_loopw [9] (fun i wr => ∃ k : Nat, i = .int .i64 k ∧ k ≤ L.length ∧ Hid (∃ r : R, Pair w wr none none r r)) (fun i _ => L.length - (intOf i).toNat)
    case atStart => exact ⟨0, rfl, by omega, HH⟩
    case round =>
    clear HH
    obtain ⟨k, rfl, hk, HH⟩ := hrel
    by_cases hlt : k < L.length
    case neg =>
      obtain ⟨r, hkp⟩ := HH.out
      have HB := Lib.hid hkp.1
      clear hkp HH
      go_wp2_with (go_at_call 9; (with_reducible refine (works_any _).mono ?_); rintro e w' ⟨rfl, hB⟩)
      go_ret
      exact ⟨rfl, HB.out.trans (hB.mono HB.out.size)⟩
    obtain ⟨r, hkp⟩ := HH.out
    obtain ⟨bb, off, rfl, hc1, hc2, hc3⟩ := HR.out.at_ hlt
    obtain ⟨kd, hkd⟩ : ∃ c, (L.getD k default).kind = c := ⟨_, rfl⟩
    obtain ⟨c, hcd⟩ : ∃ c, (L.getD k default).now = c := ⟨_, rfl⟩
    obtain ⟨v, hvd⟩ : ∃ c, (L.getD k default).urgent = c := ⟨_, rfl⟩
    rw [hkd] at hc1
    rw [hcd] at hc2
    rw [hvd] at hc3
    clear hkd hcd hvd
    have hbb : bb < w.heap.size := World.block_lt_of_cell? w _ hc1
    have HC : Hid (∀ w', Below w.heap.size w w' → w'.cell? ⟨bb, off + k * 3 + 1, none⟩ = some (.int .i64 c) ∧ w'.cell? ⟨bb, off + k * 3 + 2, none⟩ = some (.bool v)) := fun w' hb => by rw [hb.cell (p := ⟨bb, _, none⟩) hbb, hb.cell (p := ⟨bb, _, none⟩) hbb]; exact ⟨hc2, hc3⟩
    rw [← hkp.1.cell (p := ⟨bb, _, none⟩) hbb] at hc1 hc2 hc3
    have hlt' : (k : Int) < L.length := by omega
    have HK := Lib.hid hkp
    have HK2 := Lib.hid hkp.drew
    clear hkp HH
    by_cases hk0 : kd = 0
    · subst hk0
      clear HK
      go_wp2_with fail
      go_region_held3 (fun w' => w'.cell? ⟨bb, off + k * 3 + 1, none⟩ = some (.int .i64 c) ∧ w'.cell? ⟨bb, off + k * 3 + 2, none⟩ = some (.bool v)) (first | exact HC.out _ h2.out.1 | exact HC.out _ HK2.out.1) (first | (go_at_call 12; (with_reducible refine (packetA HK2.out c v).mono ?_); rintro e w2 ⟨rfl, h2⟩))
      all_goals
        have HP2 := Lib.hid h2.out.drew
        clear HK2 h2 hc1 hc2 hc3
        go_wp2_with fail
        go_region_held3 (fun w' => w'.cell? ⟨bb, off + k * 3 + 1, none⟩ = some (.int .i64 c) ∧ w'.cell? ⟨bb, off + k * 3 + 2, none⟩ = some (.bool v)) (first | exact HC.out _ HP.out.1 | exact HC.out _ HP2.out.1) (first | (go_at_call 13; (with_reducible refine (packetB HP2.out c v).mono ?_); rintro e w3 ⟨rfl, HP⟩))
        all_goals
          clear HP2
          go_wp2_with fail
          obtain ⟨x, hx⟩ : ∃ x, whenOf none (r.packet c v) = x := ⟨_, rfl⟩
          obtain ⟨y, hy⟩ : ∃ y, someOf none (r.packet c v) = y := ⟨_, rfl⟩
          obtain ⟨d, hd⟩ : ∃ d, dueOf none (r.packet c v) c = d := ⟨_, rfl⟩
          have HX := Lib.hid hx
          have HY := Lib.hid hy
          have HD := Lib.hid hd
          clear hx hy hd
          (go_at_call 16; (with_reducible refine (whenA HP.out x y HX.out HY.out).mono ?_); rintro e w4 ⟨rfl, h4⟩)
          clear HP
          go_wp2_with fail
          (go_at_call 17; (with_reducible refine (whenB h4.out x y HX.out HY.out).mono ?_); rintro e w5 ⟨rfl, h5⟩)
          have HP5 := Lib.hid h5.out.drew
          clear h4 h5 HX HY
          go_wp2_with fail
          go_region_held3 (fun w' => w'.cell? ⟨bb, off + k * 3 + 1, none⟩ = some (.int .i64 c)) (first | exact (HC.out _ h7.out.1).1 | exact (HC.out _ h6.out.1).1 | exact (HC.out _ HP5.out.1).1) (first
            | (go_at_call 18; (with_reducible refine (dueA HP5.out c d HD.out).mono ?_); rintro e w6 ⟨rfl, h6⟩)
            | (go_at_call 19; (with_reducible refine (dueB h6.out c d HD.out).mono ?_); rintro e w7 ⟨rfl, h7⟩))
          all_goals
            have HX : Hid (∃ r : R, Pair w w7 none none r r) := ⟨_, h7.out⟩
            clear h6 h7 HP5 HD HC
            go_wp2_with fail
            go_roundw
            case rel => exact ⟨k + 1, by go_num, by omega, HX⟩
            case measure => (simp [intOf] <;> omega)
    by_cases hk1 : kd = 1
    · subst hk1
      clear HK2
      go_wp2_with fail
      (go_at_call 14; (with_reducible refine (sentA HK.out).mono ?_); rintro e w2 ⟨rfl, h2⟩)
      clear HK hc1 hc2 hc3
      go_wp2_with fail
      (go_at_call 15; (with_reducible refine (sentB h2.out).mono ?_); rintro e w3 ⟨rfl, HP⟩)
      clear h2
      go_wp2_with fail
      obtain ⟨x, hx⟩ : ∃ x, whenOf none r.sent = x := ⟨_, rfl⟩
      obtain ⟨y, hy⟩ : ∃ y, someOf none r.sent = y := ⟨_, rfl⟩
      obtain ⟨d, hd⟩ : ∃ d, dueOf none r.sent c = d := ⟨_, rfl⟩
      have HX := Lib.hid hx
      have HY := Lib.hid hy
      have HD := Lib.hid hd
      clear hx hy hd
      (go_at_call 16; (with_reducible refine (whenA HP.out x y HX.out HY.out).mono ?_); rintro e w4 ⟨rfl, h4⟩)
      clear HP
      go_wp2_with fail
      (go_at_call 17; (with_reducible refine (whenB h4.out x y HX.out HY.out).mono ?_); rintro e w5 ⟨rfl, h5⟩)
      have HP5 := Lib.hid h5.out.drew
      clear h4 h5 HX HY
      go_wp2_with fail
      go_region_held3 (fun w' => w'.cell? ⟨bb, off + k * 3 + 1, none⟩ = some (.int .i64 c)) (first | exact (HC.out _ h7.out.1).1 | exact (HC.out _ h6.out.1).1 | exact (HC.out _ HP5.out.1).1) (first
        | (go_at_call 18; (with_reducible refine (dueA HP5.out c d HD.out).mono ?_); rintro e w6 ⟨rfl, h6⟩)
        | (go_at_call 19; (with_reducible refine (dueB h6.out c d HD.out).mono ?_); rintro e w7 ⟨rfl, h7⟩))
      all_goals
        have HX : Hid (∃ r : R, Pair w w7 none none r r) := ⟨_, h7.out⟩
        clear h6 h7 HP5 HD HC
        go_wp2_with fail
        go_roundw
        case rel => exact ⟨k + 1, by go_num, by omega, HX⟩
        case measure => (simp [intOf] <;> omega)
    have hk0' : (kd == 0) = false := by simpa using hk0
    have hk1' : (kd == 1) = false := by simpa using hk1
    clear HK2
    go_wp2_with fail
    have HP := HK
    clear HK hc1 hc2 hc3
    obtain ⟨x, hx⟩ : ∃ x, whenOf none r = x := ⟨_, rfl⟩
    obtain ⟨y, hy⟩ : ∃ y, someOf none r = y := ⟨_, rfl⟩
    obtain ⟨d, hd⟩ : ∃ d, dueOf none r c = d := ⟨_, rfl⟩
    have HX := Lib.hid hx
    have HY := Lib.hid hy
    have HD := Lib.hid hd
    clear hx hy hd
    (go_at_call 16; (with_reducible refine (whenA HP.out x y HX.out HY.out).mono ?_); rintro e w4 ⟨rfl, h4⟩)
    clear HP
    go_wp2_with fail
    (go_at_call 17; (with_reducible refine (whenB h4.out x y HX.out HY.out).mono ?_); rintro e w5 ⟨rfl, h5⟩)
    have HP5 := Lib.hid h5.out.drew
    clear h4 h5 HX HY
    go_wp2_with fail
    go_region_held3 (fun w' => w'.cell? ⟨bb, off + k * 3 + 1, none⟩ = some (.int .i64 c)) (first | exact (HC.out _ h7.out.1).1 | exact (HC.out _ h6.out.1).1 | exact (HC.out _ HP5.out.1).1) (first
      | (go_at_call 18; (with_reducible refine (dueA HP5.out c d HD.out).mono ?_); rintro e w6 ⟨rfl, h6⟩)
      | (go_at_call 19; (with_reducible refine (dueB h6.out c d HD.out).mono ?_); rintro e w7 ⟨rfl, h7⟩))
    all_goals
      have HX : Hid (∃ r : R, Pair w w7 none none r r) := ⟨_, h7.out⟩
      clear h6 h7 HP5 HD HC
      go_wp2_with fail
      go_roundw
      case rel => exact ⟨k + 1, by go_num, by omega, HX⟩
      case measure => (simp [intOf] <;> omega)
  obtain ⟨h0, h1⟩ := hf
  go_enter Try.func3, Try.ntmps3
  go_wp2_with fail
  (go_at_call 10; (with_reducible refine (new_good _ _ h0 h1).mono ?_); rintro e w1 ⟨rfl, n1⟩)
  go_wp2_with fail
  (go_at_call 11; (with_reducible refine (refNew_good _ _ h0 h1).mono ?_); rintro e w2 ⟨rfl, n2⟩)
  obtain ⟨b, hb⟩ : ∃ b, w1.heap.size = b := ⟨_, rfl⟩
  have HH : Hid (∃ r : R, Pair w w2 (some ⟨w.heap.size, 0, none⟩) (some ⟨b, 0, none⟩) r r) := by
    have hb1 : b = w.heap.size + 1 := by rw [← hb, n1.out]; simp
    have hB1 : Below w.heap.size w w1 := by rw [n1.out]; exact (Below.refl _ _).alloc (Nat.le_refl _) _
    have hB2 : Below w1.heap.size w1 w2 := by rw [n2.out]; exact (Below.refl _ _).alloc (Nat.le_refl _) _
    have hh1 : Held 45 w1 w.heap.size (made a0) := by rw [n1.out]; exact Held.new _ _ _
    refine ⟨made a0, hB1.trans (hB2.mono hB1.size), .inr ⟨_, _, rfl, rfl, by omega, Nat.le_refl _, by omega, made_ok h0 h1, made_ok h0 h1, hh1.at_ (hB2.block _ hh1.lt), ?_⟩⟩
    rw [n2.out, ← hb]; exact Held.new _ _ _
  clear n1 n2
  rw [hb]
  clear hb
  go_wp2_with fail
  obtain ⟨wo, hwo⟩ : ∃ wo : World, wo = w2 := ⟨_, rfl⟩
  subst hwo
  go_loopw [9] (fun i wr => ∃ k : Nat, i = .int .i64 k ∧ k ≤ L.length ∧ Hid (∃ r : R, Pair w wr (some ⟨w.heap.size, 0, none⟩) (some ⟨b, 0, none⟩) r r)) (fun i _ => L.length - (intOf i).toNat)
  case atStart => exact ⟨0, rfl, by omega, HH⟩
  case round =>
  clear HH
  obtain ⟨k, rfl, hk, HH⟩ := hrel
  by_cases hlt : k < L.length
  case neg =>
    obtain ⟨r, hkp⟩ := HH.out
    have HB := Lib.hid hkp.1
    clear hkp HH
    go_wp2_with (go_at_call 9; (with_reducible refine (works_any _).mono ?_); rintro e w' ⟨rfl, hB⟩)
    go_ret
    exact ⟨rfl, HB.out.trans (hB.mono HB.out.size)⟩
  obtain ⟨r, hkp⟩ := HH.out
  obtain ⟨bb, off, rfl, hc1, hc2, hc3⟩ := HR.out.at_ hlt
  obtain ⟨kd, hkd⟩ : ∃ c, (L.getD k default).kind = c := ⟨_, rfl⟩
  obtain ⟨c, hcd⟩ : ∃ c, (L.getD k default).now = c := ⟨_, rfl⟩
  obtain ⟨v, hvd⟩ : ∃ c, (L.getD k default).urgent = c := ⟨_, rfl⟩
  rw [hkd] at hc1
  rw [hcd] at hc2
  rw [hvd] at hc3
  clear hkd hcd hvd
  have hbb : bb < w.heap.size := World.block_lt_of_cell? w _ hc1
  have HC : Hid (∀ w', Below w.heap.size w w' → w'.cell? ⟨bb, off + k * 3 + 1, none⟩ = some (.int .i64 c) ∧ w'.cell? ⟨bb, off + k * 3 + 2, none⟩ = some (.bool v)) := fun w' hb => by rw [hb.cell (p := ⟨bb, _, none⟩) hbb, hb.cell (p := ⟨bb, _, none⟩) hbb]; exact ⟨hc2, hc3⟩
  rw [← hkp.1.cell (p := ⟨bb, _, none⟩) hbb] at hc1 hc2 hc3
  have hlt' : (k : Int) < L.length := by omega
  have HK := Lib.hid hkp
  have HK2 := Lib.hid hkp.drew
  clear hkp HH
  by_cases hk0 : kd = 0
  · subst hk0
    clear HK
    go_wp2_with fail
    go_region_held3 (fun w' => w'.cell? ⟨bb, off + k * 3 + 1, none⟩ = some (.int .i64 c) ∧ w'.cell? ⟨bb, off + k * 3 + 2, none⟩ = some (.bool v)) (first | exact HC.out _ h2.out.1 | exact HC.out _ HK2.out.1) (first | (go_at_call 12; (with_reducible refine (packetA HK2.out c v).mono ?_); rintro e w2 ⟨rfl, h2⟩))
    all_goals
      have HP2 := Lib.hid h2.out.drew
      clear HK2 h2 hc1 hc2 hc3
      go_wp2_with fail
      go_region_held3 (fun w' => w'.cell? ⟨bb, off + k * 3 + 1, none⟩ = some (.int .i64 c) ∧ w'.cell? ⟨bb, off + k * 3 + 2, none⟩ = some (.bool v)) (first | exact HC.out _ HP.out.1 | exact HC.out _ HP2.out.1) (first | (go_at_call 13; (with_reducible refine (packetB HP2.out c v).mono ?_); rintro e w3 ⟨rfl, HP⟩))
      all_goals
        clear HP2
        go_wp2_with fail
        obtain ⟨x, hx⟩ : ∃ x, whenOf (some ⟨w.heap.size, 0, none⟩) (r.packet c v) = x := ⟨_, rfl⟩
        obtain ⟨y, hy⟩ : ∃ y, someOf (some ⟨w.heap.size, 0, none⟩) (r.packet c v) = y := ⟨_, rfl⟩
        obtain ⟨d, hd⟩ : ∃ d, dueOf (some ⟨w.heap.size, 0, none⟩) (r.packet c v) c = d := ⟨_, rfl⟩
        have HX := Lib.hid hx
        have HY := Lib.hid hy
        have HD := Lib.hid hd
        clear hx hy hd
        (go_at_call 16; (with_reducible refine (whenA HP.out x y HX.out HY.out).mono ?_); rintro e w4 ⟨rfl, h4⟩)
        clear HP
        go_wp2_with fail
        (go_at_call 17; (with_reducible refine (whenB h4.out x y HX.out HY.out).mono ?_); rintro e w5 ⟨rfl, h5⟩)
        have HP5 := Lib.hid h5.out.drew
        clear h4 h5 HX HY
        go_wp2_with fail
        go_region_held3 (fun w' => w'.cell? ⟨bb, off + k * 3 + 1, none⟩ = some (.int .i64 c)) (first | exact (HC.out _ h7.out.1).1 | exact (HC.out _ h6.out.1).1 | exact (HC.out _ HP5.out.1).1) (first
          | (go_at_call 18; (with_reducible refine (dueA HP5.out c d HD.out).mono ?_); rintro e w6 ⟨rfl, h6⟩)
          | (go_at_call 19; (with_reducible refine (dueB h6.out c d HD.out).mono ?_); rintro e w7 ⟨rfl, h7⟩))
        all_goals
          have HX : Hid (∃ r : R, Pair w w7 (some ⟨w.heap.size, 0, none⟩) (some ⟨b, 0, none⟩) r r) := ⟨_, h7.out⟩
          clear h6 h7 HP5 HD HC
          go_wp2_with fail
          go_roundw
          case rel => exact ⟨k + 1, by go_num, by omega, HX⟩
          case measure => (simp [intOf] <;> omega)
  by_cases hk1 : kd = 1
  · subst hk1
    clear HK2
    go_wp2_with fail
    (go_at_call 14; (with_reducible refine (sentA HK.out).mono ?_); rintro e w2 ⟨rfl, h2⟩)
    clear HK hc1 hc2 hc3
    go_wp2_with fail
    (go_at_call 15; (with_reducible refine (sentB h2.out).mono ?_); rintro e w3 ⟨rfl, HP⟩)
    clear h2
    go_wp2_with fail
    obtain ⟨x, hx⟩ : ∃ x, whenOf (some ⟨w.heap.size, 0, none⟩) r.sent = x := ⟨_, rfl⟩
    obtain ⟨y, hy⟩ : ∃ y, someOf (some ⟨w.heap.size, 0, none⟩) r.sent = y := ⟨_, rfl⟩
    obtain ⟨d, hd⟩ : ∃ d, dueOf (some ⟨w.heap.size, 0, none⟩) r.sent c = d := ⟨_, rfl⟩
    have HX := Lib.hid hx
    have HY := Lib.hid hy
    have HD := Lib.hid hd
    clear hx hy hd
    (go_at_call 16; (with_reducible refine (whenA HP.out x y HX.out HY.out).mono ?_); rintro e w4 ⟨rfl, h4⟩)
    clear HP
    go_wp2_with fail
    (go_at_call 17; (with_reducible refine (whenB h4.out x y HX.out HY.out).mono ?_); rintro e w5 ⟨rfl, h5⟩)
    have HP5 := Lib.hid h5.out.drew
    clear h4 h5 HX HY
    go_wp2_with fail
    go_region_held3 (fun w' => w'.cell? ⟨bb, off + k * 3 + 1, none⟩ = some (.int .i64 c)) (first | exact (HC.out _ h7.out.1).1 | exact (HC.out _ h6.out.1).1 | exact (HC.out _ HP5.out.1).1) (first
      | (go_at_call 18; (with_reducible refine (dueA HP5.out c d HD.out).mono ?_); rintro e w6 ⟨rfl, h6⟩)
      | (go_at_call 19; (with_reducible refine (dueB h6.out c d HD.out).mono ?_); rintro e w7 ⟨rfl, h7⟩))
    all_goals
      have HX : Hid (∃ r : R, Pair w w7 (some ⟨w.heap.size, 0, none⟩) (some ⟨b, 0, none⟩) r r) := ⟨_, h7.out⟩
      clear h6 h7 HP5 HD HC
      go_wp2_with fail
      go_roundw
      case rel => exact ⟨k + 1, by go_num, by omega, HX⟩
      case measure => (simp [intOf] <;> omega)
  have hk0' : (kd == 0) = false := by simpa using hk0
  have hk1' : (kd == 1) = false := by simpa using hk1
  clear HK2
  go_wp2_with fail
  have HP := HK
  clear HK hc1 hc2 hc3
  obtain ⟨x, hx⟩ : ∃ x, whenOf (some ⟨w.heap.size, 0, none⟩) r = x := ⟨_, rfl⟩
  obtain ⟨y, hy⟩ : ∃ y, someOf (some ⟨w.heap.size, 0, none⟩) r = y := ⟨_, rfl⟩
  obtain ⟨d, hd⟩ : ∃ d, dueOf (some ⟨w.heap.size, 0, none⟩) r c = d := ⟨_, rfl⟩
  have HX := Lib.hid hx
  have HY := Lib.hid hy
  have HD := Lib.hid hd
  clear hx hy hd
  (go_at_call 16; (with_reducible refine (whenA HP.out x y HX.out HY.out).mono ?_); rintro e w4 ⟨rfl, h4⟩)
  clear HP
  go_wp2_with fail
  (go_at_call 17; (with_reducible refine (whenB h4.out x y HX.out HY.out).mono ?_); rintro e w5 ⟨rfl, h5⟩)
  have HP5 := Lib.hid h5.out.drew
  clear h4 h5 HX HY
  go_wp2_with fail
  go_region_held3 (fun w' => w'.cell? ⟨bb, off + k * 3 + 1, none⟩ = some (.int .i64 c)) (first | exact (HC.out _ h7.out.1).1 | exact (HC.out _ h6.out.1).1 | exact (HC.out _ HP5.out.1).1) (first
    | (go_at_call 18; (with_reducible refine (dueA HP5.out c d HD.out).mono ?_); rintro e w6 ⟨rfl, h6⟩)
    | (go_at_call 19; (with_reducible refine (dueB h6.out c d HD.out).mono ?_); rintro e w7 ⟨rfl, h7⟩))
  all_goals
    have HX : Hid (∃ r : R, Pair w w7 (some ⟨w.heap.size, 0, none⟩) (some ⟨b, 0, none⟩) r r) := ⟨_, h7.out⟩
    clear h6 h7 HP5 HD HC
    go_wp2_with fail
    go_roundw
    case rel => exact ⟨k + 1, by go_num, by omega, HX⟩
    case measure => (simp [intOf] <;> omega)


/-! ### THE ROW's STEP: WRITTEN OUT: LEAVE IT -/
set_option maxRecDepth 100000 in
theorem lifted (os : Os) (started : os.Started) (H : Type) (enc : TypeId × Value → H) :
    ReturnsInHanded {} Try.checked os 3 .any (Rows.delayPlaysSpec.pre6 enc Try.prog Try.f3 Rows.delayPlaysRow.domain false) (Rows.delayPlaysSpec.post enc Try.prog Try.f3 false true false false) := by
  refine returnsInHanded_of_change (C := Try.checked) own started (by kernel_rfl) Try.func3
    (ChangeSpec.witness6 (enc := enc) (C := Try.checked) false ⟨#[], #[.int .i64 0, .slice none 0 0], []⟩ 8 (by kernel_rfl) (by kernel_rfl) (by kernel_rfl) (by kernel_rfl)) ?_
  intro W base args ds gs before hval0 hW hcnd _
  have hval : ∀ (j : Nat) t v, Try.f3.params[j]? = some t → args[j]? = some v → Value.okWide Try.prog W .any base t v := hval0
  have hW' := hW
  obtain ⟨p, q, hA0, hV, rfl, hfz, hnd⟩ := hW
  have hA : DataW.TrodAll enc Try.prog W 0 (fun _ => true) true Try.f3.params.toList args.toList ds p := hA0
  rw [Try.params3] at hA hval
  obtain ⟨v0, vs0, d0, ds0, p0, q0, hargs, rfl, rfl, h0, r0⟩ := trodAll_cons hA
  obtain ⟨v1, vs1, d1, ds1, p1, q1, rfl, rfl, rfl, h1, r1⟩ := trodAll_cons r0
  obtain ⟨rfl, rfl, rfl⟩ := trodAll_nil r1
  obtain rfl : args = #[v0, v1] := by cases args; simp_all
  obtain ⟨rfl, rfl⟩ := trodVars_none hV
  obtain ⟨a0, rfl, rfl, rfl, w0⟩ := open_int Try.underlying2 (hval 0 2 v0 rfl rfl) h0
  obtain ⟨a1, len1, cap1, rfl⟩ := okWide_slice Try.underlying22 (hval 1 22 v1 rfl rfl)
  have k1 := h1
  have lt1 : ∀ x ∈ p1, x.block < W.heap.size := by obtain ⟨m, hm⟩ := k1; exact DataW.trod_lt m _ _ _ hm
  obtain ⟨L, rfl, hr1, hL1⟩ : ∃ L : List M.Op, L.length = len1 ∧ OpRow W a1 L ∧ OpsFit L := by
    obtain ⟨fuel, hf⟩ := h1
    exact ops_of (by simpa [Value.cells] using hf)
  clear hA0 hval0
  refine (walk a0 a1 cap1 L W w0 hr1 hL1).mono fun e W' ⟨he, bel⟩ => ?_
  subst he
  exact ⟨_, rfl, _, _, _, [], _, [], hW', trodAll_mk1 (shut_bool Try.underlying4 _), (trodAll_cons_mk (shut_int Try.underlying2 w0) (trodAll_cons_mk (Below.trod laidOut (by kernel_rfl) (of_decide_eq_true (by kernel_rfl)) k1 bel lt1) trodAll_mk0)), rfl, bel.frame _, fun h => by cases h⟩

theorem over : Rows.delayPlaysRow.holds Try.pinned (OpenSpec.ofChange Rows.delayPlaysSpec) :=
  OpenClaim.holds_of_wide 3 Try.f3 rfl rfl rfl rfl rfl rfl rfl ⟨rfl, rfl, rfl, rfl, rfl⟩ rfl rfl rfl rfl rfl (by kernel_rfl) Try.func3 (by kernel_rfl)
    (of_decide_eq_true (by kernel_rfl)) (by unfold Func.isWrapper; first | (rw [if_pos (by decide +kernel)]; kernel_rfl) | (rw [if_neg (by decide +kernel)]; exact ⟨rfl, rfl⟩))
    (fun os started H enc _ => lifted os started H enc)

/-- ████ THE STATEMENT ████ -/
theorem proved : Rows.DelayPlaysSaid := over
#print axioms proved
end Go.Proofs.Ytjemamdldeeebaa.delayPlays

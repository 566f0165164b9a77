/- Proved: 'Rows.DelayHurriesSaid': for every input fairleadlaw16.DelayHurries returns true, and each argument reads afterwards as before. Conditions: none beyond the given row's own. (The frame round the walk was written by the kit's proof-skeleton.mjs.) -/
import Derived.Test.YtjemamdldeeebaaRows
import Derived.WalkKit
import Derived.ProofKit
import Derived.OpenShut
import Derived.ShutString
import Derived.ChangeOld
import Derived.Below
import Derived.Test.YtjemamdldeeebaaShell
import Derived.Test.YtjemamdldeeebaaWalkC
namespace Go.Proofs.Ytjemamdldeeebaa.delayHurries
open Go.ChangeShapes Go.WideShapes Go.ChangeAt Go.RowKit
open Go.ChangeMaps (open_string shut_string)
set_option linter.unusedVariables false
open M
attribute [local go_sem] max_i64 min_i64

theorem own : ownKnob Try.prog.godebug = none := by kernel_rfl
theorem laidOut : laidOutB Try.prog = true := by kernel_rfl

/-- WHAT THE WALK IS TOLD OF A SLICE OF INTEGERS THAT CAME IN: it is nil; or it leads to a row of 'cap' cells, the numbers 'zs' (the first 'len' are its elements, the rest its spare room), each fitting its kind. -/
def IsRow (k : IntKind) (w : World) (a : Option Addr) (len cap : Nat) (zs : List Int) : Prop :=
  (a = none ∧ len = 0 ∧ cap = 0 ∧ zs = []) ∨
  ∃ x, a = some x ∧ len ≤ cap ∧ cap ≤ maxLen ∧ zs.length = cap ∧ (∀ i, i < zs.length → w.cell? (x.add i) = some (.int k (zs.getD i 0))) ∧ ∀ n ∈ zs, (Lit.int k n).wf = true

/-! ### STEP 1: THE WALK: the Go text returns true, AND WRITES NOTHING THAT WAS THERE: 'Below w.heap.size w w'' (Derived/Below.lean: '.refl', '.alloc', '.drew', '.setCell' at a new block, '.trans'). Open each 'IsRow' by 'rcases' AHEAD of 'go_enter'; part every test ahead of the walk. -/
set_option maxHeartbeats 1000000 in
set_option maxRecDepth 100000 in
theorem walk (a0 : Int) (a1 : Int) (a2 : Option Addr) (len2 cap2 : Nat) (z2 : List Int) (w : World) (w0 : (Lit.int .i64 a0).wf = true) (w1 : (Lit.int .i64 a1).wf = true) (w2 : IsRow .i64 w a2 len2 cap2 z2) :
    Calls Try.prog 6 #[.int .i64 a0, .int .i64 a1, .slice a2 len2 cap2] w fun e w' => e = .returned (.bool true) ∧ Below w.heap.size w w' := by
  obtain ⟨L, rfl, hr, hcap, hwf, _⟩ := row_of w2
  have HR := Lib.hid hr
  clear w0 w1 w2 hwf hcap hr
  by_cases hf : 0 ≤ a0 ∧ a0 ≤ 1048576
  case neg =>
    go_enter Try.func6, Try.ntmps6
    go_wp2_with (first
      | (go_at_call 10; (with_reducible refine (new_bad _ _ hf).mono ?_); rintro e w' ⟨rfl, rfl⟩)
      | (go_at_call 9; (with_reducible refine (works_any _).mono ?_); rintro e w4 ⟨rfl, hB⟩))
    go_ret
    exact ⟨rfl, hB⟩
  obtain ⟨h0, h1⟩ := hf
  go_enter Try.func6, Try.ntmps6
  go_wp2_with fail
  (go_at_call 10; (with_reducible refine (new_keeps a0 w h0 h1).mono ?_); rintro e w1 ⟨rfl, HK⟩)
  by_cases hbig : 300 < L.length
  · go_wp2_with (go_at_call 9; (with_reducible refine (works_any _).mono ?_); rintro e w' ⟨rfl, hB⟩)
    go_ret
    exact ⟨rfl, HK.out.1.trans (hB.mono HK.out.1.size)⟩
  go_wp2_with fail
  (go_at_call 12; (with_reducible refine (packet_keeps HK.out a1 true).mono ?_); rintro e w2 ⟨rfl, HP⟩)
  have HH : Hid (∃ r : R, Keeps w w2 w.heap.size r ∧ 1 ≤ r.n ∧ r.u = true) := ⟨_, HP.out, by show (1 : Int) ≤ mn (0 + 1) 2; decide, rfl⟩
  clear HK HP
  go_wp2_with fail
  obtain ⟨wo, hwo⟩ : ∃ wo : World, wo = w2 := ⟨_, rfl⟩
  subst hwo
  go_loopw [9] (fun i wr => ∃ k : Nat, i = .int .i64 k ∧ k ≤ L.length ∧ Hid (∃ r : R, Keeps w wr w.heap.size r ∧ 1 ≤ r.n ∧ r.u = true)) (fun i _ => L.length - (intOf i).toNat)
  case atStart => exact ⟨0, rfl, by omega, HH⟩
  case round =>
  clear HH
  obtain ⟨k, rfl, hk, HH⟩ := hrel
  by_cases hlt : k < L.length
  · obtain ⟨r, hkp, hn, hu⟩ := HH.out
    obtain ⟨bb, off, rfl, hc⟩ := (HR.out.kept hkp.1).at_ hlt
    obtain ⟨c, hcd⟩ : ∃ c, L.getD k 0 = c := ⟨_, rfl⟩
    rw [hcd] at hc
    clear hcd HH
    have hlt' : (k : Int) < L.length := by omega
    have hbb : bb < wr.heap.size := World.block_lt_of_cell? wr _ hc
    have CD : Hid (Calls Try.prog 18 #[.pointer (some ⟨w.heap.size, 0, none⟩), .int .i64 c] wr fun e w' => e = .returned (.bool true) ∧ Hid (Keeps w w' w.heap.size r ∧ w'.cell? ⟨bb, off + k, none⟩ = some (.int .i64 c))) :=
      (due_any _ r c wr hkp.2.2.1 hkp.2.1).mono fun _ _ ⟨he, hh⟩ => ⟨by rw [he]; simp [R.due, hu]; omega, hkp.below hh, by rw [hh.cell (p := ⟨bb, _, none⟩) hbb]; exact hc⟩
    have HN : Hid (1 ≤ (r.packet c false).n ∧ (r.packet c false).u = true) := ⟨by show 1 ≤ mn (r.n + 1) 2; have := mn_le (r.n + 1) 2; omega, by simp [R.packet, hu]⟩
    clear hkp hn hu
    go_wp2_with fail
    (go_at_call 18; (with_reducible refine CD.out.mono ?_); rintro e w3 ⟨rfl, h3⟩)
    obtain ⟨hk3, hc3⟩ := h3.out
    have HK3 := Lib.hid hk3
    clear CD h3 hc hk3
    go_wp2_with fail
    (go_at_call 12; (with_reducible refine (packet_keeps HK3.out c false).mono ?_); rintro e w4 ⟨rfl, h4⟩)
    have HT : Hid (∃ r : R, Keeps w w4 w.heap.size r ∧ 1 ≤ r.n ∧ r.u = true) := ⟨_, h4.out, HN.out⟩
    clear HK3 h4 HN hc3
    go_wp2_with fail
    go_roundw
    case rel => exact ⟨k + 1, by go_num, by omega, HT⟩
    case measure => (simp [intOf] <;> omega)
  obtain ⟨r, hkp, hn, hu⟩ := HH.out
  have HD : Hid (∀ x, r.due x = true) := fun x => by simp [R.due, hu]; omega
  have HK := Lib.hid hkp
  clear hkp HH hn hu
  go_wp2_with fail
  (go_at_call 18; (with_reducible refine (due_keeps HK.out _ true (HD.out _)).mono ?_); rintro e w3 ⟨rfl, h3⟩)
  clear HK
  go_wp2_with fail
  (go_at_call 18; (with_reducible refine (due_keeps h3.out _ true (HD.out _)).mono ?_); rintro e w4 ⟨rfl, h4⟩)
  clear h3 HD
  go_wp2_with fail
  (go_at_call 14; (with_reducible refine (sent_keeps h4.out).mono ?_); rintro e w5 ⟨rfl, h5⟩)
  clear h4
  go_wp2_with fail
  (go_at_call 16; (with_reducible refine (when_keeps h5.out 0 false (by simp [R.when, R.sent]) (by simp [R.some, R.sent])).mono ?_); rintro e w6 ⟨rfl, h6⟩)
  clear h5
  go_wp2_with fail
  (go_at_call 18; (with_reducible refine (due_keeps h6.out _ false (by simp [R.due, R.sent])).mono ?_); rintro e w7 ⟨rfl, h7⟩)
  have HB := Lib.hid h7.out.1
  clear h6 h7
  go_wp2_with (go_at_call 9; (with_reducible refine (works_any _).mono ?_); rintro e w' ⟨rfl, hB⟩)
  go_ret
  exact ⟨rfl, HB.out.trans (hB.mono HB.out.size)⟩

/-! ### THE ROW's STEP: WRITTEN OUT: LEAVE IT -/
set_option maxRecDepth 100000 in
theorem lifted (os : Os) (started : os.Started) (H : Type) (enc : TypeId × Value → H) :
    ReturnsInHanded {} Try.checked os 6 .any (Rows.delayHurriesSpec.pre6 enc Try.prog Try.f6 Rows.delayHurriesRow.domain false) (Rows.delayHurriesSpec.post enc Try.prog Try.f6 false true false false) := by
  refine returnsInHanded_of_change (C := Try.checked) own started (by kernel_rfl) Try.func6
    (ChangeSpec.witness6 (enc := enc) (C := Try.checked) false ⟨#[], #[.int .i64 0, .int .i64 0, .slice none 0 0], []⟩ 8 (by kernel_rfl) (by kernel_rfl) (by kernel_rfl) (by kernel_rfl)) ?_
  intro W base args ds gs before hval0 hW hcnd _
  have hval : ∀ (j : Nat) t v, Try.f6.params[j]? = some t → args[j]? = some v → Value.okWide Try.prog W .any base t v := hval0
  have hW' := hW
  obtain ⟨p, q, hA0, hV, rfl, hfz, hnd⟩ := hW
  have hA : DataW.TrodAll enc Try.prog W 0 (fun _ => true) true Try.f6.params.toList args.toList ds p := hA0
  rw [Try.params6] at hA hval
  obtain ⟨v0, vs0, d0, ds0, p0, q0, hargs, rfl, rfl, h0, r0⟩ := trodAll_cons hA
  obtain ⟨v1, vs1, d1, ds1, p1, q1, rfl, rfl, rfl, h1, r1⟩ := trodAll_cons r0
  obtain ⟨v2, vs2, d2, ds2, p2, q2, rfl, rfl, rfl, h2, r2⟩ := trodAll_cons r1
  obtain ⟨rfl, rfl, rfl⟩ := trodAll_nil r2
  obtain rfl : args = #[v0, v1, v2] := by cases args; simp_all
  obtain ⟨rfl, rfl⟩ := trodVars_none hV
  obtain ⟨a0, rfl, rfl, rfl, w0⟩ := open_int Try.underlying2 (hval 0 2 v0 rfl rfl) h0
  obtain ⟨a1, rfl, rfl, rfl, w1⟩ := open_int Try.underlying2 (hval 1 2 v1 rfl rfl) h1
  obtain ⟨a2, len2, cap2, rfl⟩ := okWide_slice Try.underlying40 (hval 2 40 v2 rfl rfl)
  have k2 := h2
  have lt2 : ∀ x ∈ p2, x.block < W.heap.size := by obtain ⟨m, hm⟩ := k2; exact DataW.trod_lt m _ _ _ hm
  obtain ⟨z2, w2⟩ : ∃ zs, IsRow .i64 W a2 len2 cap2 zs := by
    obtain ⟨fuel, hf⟩ := h2
    rcases open_ints Try.underlying40 Try.underlying2 (by kernel_rfl) hf with ⟨hcs, _⟩ | ⟨x, l, c, zs, hcs, _, hl, hm, hz, _, hcell, hwz⟩
    · simp [Value.cells] at hcs
      obtain ⟨rfl, rfl, rfl⟩ := hcs
      exact ⟨[], .inl ⟨rfl, rfl, rfl, rfl⟩⟩
    · simp [Value.cells] at hcs
      obtain ⟨rfl, rfl, rfl⟩ := hcs
      exact ⟨zs, .inr ⟨_, rfl, hl, hm, by simpa using hz, hcell, hwz⟩⟩
  clear hA0 hval0
  refine (walk a0 a1 a2 len2 cap2 z2 W w0 w1 w2).mono fun e W' ⟨he, bel⟩ => ?_
  subst he
  exact ⟨_, rfl, _, _, _, [], _, [], hW', trodAll_mk1 (shut_bool Try.underlying4 _), (trodAll_cons_mk (shut_int Try.underlying2 w0) (trodAll_cons_mk (shut_int Try.underlying2 w1) (trodAll_cons_mk (Below.trod laidOut (by kernel_rfl) (of_decide_eq_true (by kernel_rfl)) k2 bel lt2) trodAll_mk0))), rfl, bel.frame _, fun h => by cases h⟩

theorem over : Rows.delayHurriesRow.holds Try.pinned (OpenSpec.ofChange Rows.delayHurriesSpec) :=
  OpenClaim.holds_of_wide 6 Try.f6 rfl rfl rfl rfl rfl rfl rfl ⟨rfl, rfl, rfl, rfl, rfl⟩ rfl rfl rfl rfl rfl (by kernel_rfl) Try.func6 (by kernel_rfl)
    (of_decide_eq_true (by kernel_rfl)) (by unfold Func.isWrapper; first | (rw [if_pos (by decide +kernel)]; kernel_rfl) | (rw [if_neg (by decide +kernel)]; exact ⟨rfl, rfl⟩))
    (fun os started H enc _ => lifted os started H enc)

/-- ████ THE STATEMENT ████ -/
theorem proved : Rows.DelayHurriesSaid := over
#print axioms proved
end Go.Proofs.Ytjemamdldeeebaa.delayHurries

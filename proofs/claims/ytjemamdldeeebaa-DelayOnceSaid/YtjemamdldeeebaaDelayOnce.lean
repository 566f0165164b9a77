/- Proved: 'Rows.DelayOnceSaid': for every input fairleadlaw16.DelayOnce returns true, and each argument reads afterwards as before. Conditions: none beyond the given row's own. (The frame round the walk was written by the kit's proof-skeleton.mjs.) -/
import Derived.Test.YtjemamdldeeebaaRows
import Derived.WalkKit
import Derived.ProofKit
import Derived.OpenShut
import Derived.ShutString
import Derived.ChangeOld
import Derived.Below
import Derived.Test.YtjemamdldeeebaaShell
import Derived.Test.YtjemamdldeeebaaWalkC
namespace Go.Proofs.Ytjemamdldeeebaa.delayOnce
open Go.ChangeShapes Go.WideShapes Go.ChangeAt Go.RowKit
open Go.ChangeMaps (open_string shut_string)
set_option linter.unusedVariables false
open M
attribute [local go_sem] max_i64 min_i64

theorem own : ownKnob Try.prog.godebug = none := by kernel_rfl
theorem laidOut : laidOutB Try.prog = true := by kernel_rfl

/-- WHAT THE WALK IS TOLD OF A SLICE OF INTEGERS THAT CAME IN: it is nil; or it leads to a row of 'cap' cells, the numbers 'zs' (the first 'len' are its elements, the rest its spare room), each fitting its kind. -/
def IsRow (k : IntKind) (w : World) (a : Option Addr) (len cap : Nat) (zs : List Int) : Prop :=
  (a = none ∧ len = 0 ∧ cap = 0 ∧ zs = []) ∨
  ∃ x, a = some x ∧ len ≤ cap ∧ cap ≤ maxLen ∧ zs.length = cap ∧ (∀ i, i < zs.length → w.cell? (x.add i) = some (.int k (zs.getD i 0))) ∧ ∀ n ∈ zs, (Lit.int k n).wf = true

/-! ### STEP 1: THE WALK: the Go text returns true, AND WRITES NOTHING THAT WAS THERE: 'Below w.heap.size w w'' (Derived/Below.lean: '.refl', '.alloc', '.drew', '.setCell' at a new block, '.trans'). Open each 'IsRow' by 'rcases' AHEAD of 'go_enter'; part every test ahead of the walk. -/
set_option maxHeartbeats 1000000 in
set_option maxRecDepth 100000 in
theorem walk (a0 : Option Addr) (len0 cap0 : Nat) (z0 : List Int) (w : World) (w0 : IsRow .i64 w a0 len0 cap0 z0) :
    Calls Try.prog 7 #[.slice a0 len0 cap0] w fun e w' => e = .returned (.bool true) ∧ Below w.heap.size w w' := by
  obtain ⟨L, rfl, hr, hcap, hwf, _⟩ := row_of w0
  have hL : ∀ n ∈ L, -9223372036854775808 ≤ n ∧ n ≤ 9223372036854775807 := fun n hn => wf_i64 (hwf n hn)
  have HR := Lib.hid hr
  have HL := Lib.hid hL
  clear w0 hwf hcap hr hL
  by_cases hbig : 300 < L.length
  · go_enter Try.func7, Try.ntmps7
    go_wp2_with (go_at_call 9; (with_reducible refine (works_any _).mono ?_); rintro e w' ⟨rfl, hB⟩)
    go_ret
    exact ⟨rfl, hB⟩
  go_enter Try.func7, Try.ntmps7
  go_wp2_with fail
  (go_at_call 10; (with_reducible refine (new_keeps 0 w (by decide) (by decide)).mono ?_); rintro e w1 ⟨rfl, HK⟩)
  have HH : Hid (∃ r : R, Keeps w w1 w.heap.size r ∧ r.t = 0 ∧ r.n = 0 ∧ r.u = false) := ⟨_, HK.out, rfl, rfl, rfl⟩
  clear HK
  go_wp2_with fail
  obtain ⟨wo, hwo⟩ : ∃ wo : World, wo = w1 := ⟨_, rfl⟩
  subst hwo
  go_loopw [5] (fun i wr => ∃ k : Nat, i = .int .i64 k ∧ k ≤ L.length ∧ Hid (∃ r : R, Keeps w wr w.heap.size r ∧ r.t = 0 ∧ r.n = 0 ∧ r.u = false)) (fun i _ => L.length - (intOf i).toNat)
  case atStart => exact ⟨0, rfl, by omega, HH⟩
  case round =>
  clear HH
  obtain ⟨k, rfl, hk, HH⟩ := hrel
  by_cases hlt : k < L.length
  · obtain ⟨r, hkp, ht, hn, hu⟩ := HH.out
    obtain ⟨bb, off, rfl, hc⟩ := (HR.out.kept hkp.1).at_ hlt
    obtain ⟨c, hcd⟩ : ∃ c, L.getD k 0 = c := ⟨_, rfl⟩
    rw [hcd] at hc
    clear hcd HH
    have hlt' : (k : Int) < L.length := by omega
    obtain ⟨x, hx⟩ : ∃ x, mx c 0 = x := ⟨_, rfl⟩
    have hx0 : 0 ≤ x := by have := mx_le c 0; omega
    have e1 : (r.packet x false).due x = true := by
      have h1 := mn_le x 2305843009213693952
      have h2 := mx_le 0 (mn x 2305843009213693952)
      have h3 : clip x ≤ x := by unfold clip; omega
      have h4 : mn (0 + 1) 2 = 1 := by decide
      simp only [R.due, R.packet, hn, hu, ht, h4, if_true]
      simp; omega
    have HP := Lib.hid (packet_keeps hkp x false)
    have HD : Hid (∀ w2, Keeps w w2 w.heap.size (r.packet x false) → Calls Try.prog 18 #[.pointer (some ⟨w.heap.size, 0, none⟩), .int .i64 x] w2 fun e w' => e = .returned (.bool true) ∧ Hid (Keeps w w' w.heap.size (r.packet x false))) :=
      fun w2 h => due_keeps h x true e1
    have HS : Hid ((r.packet x false).sent.sent.due x = false ∧ (r.packet x false).sent.sent.t = 0 ∧ (r.packet x false).sent.sent.n = 0 ∧ (r.packet x false).sent.sent.u = false) := ⟨by simp [R.due, R.sent], ht, rfl, rfl⟩
    generalize r.packet x false = r1 at HP HD HS
    clear e1 hkp ht hn hu
    go_wp2_with fail
    (go_at_call 12; (with_reducible refine HP.out.mono ?_); rintro e w2 ⟨rfl, h2⟩)
    clear HP
    have C := Lib.hid (HD.out w2 h2.out)
    clear h2 HD
    go_wp2_with fail
    (go_at_call 18; (with_reducible refine C.out.mono ?_); rintro e w3 ⟨rfl, h3⟩)
    clear C
    go_wp2_with fail
    (go_at_call 14; (with_reducible refine (sent_keeps h3.out).mono ?_); rintro e w4 ⟨rfl, h4⟩)
    clear h3
    go_wp2_with fail
    (go_at_call 14; (with_reducible refine (sent_keeps h4.out).mono ?_); rintro e w5 ⟨rfl, h5⟩)
    clear h4
    go_wp2_with fail
    (go_at_call 18; (with_reducible refine (due_keeps h5.out x false HS.out.1).mono ?_); rintro e w6 ⟨rfl, h6⟩)
    clear h5
    have HT : Hid (∃ r : R, Keeps w w6 w.heap.size r ∧ r.t = 0 ∧ r.n = 0 ∧ r.u = false) := ⟨_, h6.out, HS.out.2⟩
    clear h6 HS
    go_wp2_with fail
    go_roundw
    case rel => exact ⟨k + 1, by go_num, by omega, HT⟩
    case measure => (simp [intOf] <;> omega)
  obtain ⟨r, hkp, _⟩ := HH.out
  have HB := Lib.hid hkp.1
  clear hkp HH
  go_wp2_with (go_at_call 9; (with_reducible refine (works_any _).mono ?_); rintro e w' ⟨rfl, hB⟩)
  go_ret
  exact ⟨rfl, HB.out.trans (hB.mono HB.out.size)⟩

/-! ### THE ROW's STEP: WRITTEN OUT: LEAVE IT -/
set_option maxRecDepth 100000 in
theorem lifted (os : Os) (started : os.Started) (H : Type) (enc : TypeId × Value → H) :
    ReturnsInHanded {} Try.checked os 7 .any (Rows.delayOnceSpec.pre6 enc Try.prog Try.f7 Rows.delayOnceRow.domain false) (Rows.delayOnceSpec.post enc Try.prog Try.f7 false true false false) := by
  refine returnsInHanded_of_change (C := Try.checked) own started (by kernel_rfl) Try.func7
    (ChangeSpec.witness6 (enc := enc) (C := Try.checked) false ⟨#[], #[.slice none 0 0], []⟩ 8 (by kernel_rfl) (by kernel_rfl) (by kernel_rfl) (by kernel_rfl)) ?_
  intro W base args ds gs before hval0 hW hcnd _
  have hval : ∀ (j : Nat) t v, Try.f7.params[j]? = some t → args[j]? = some v → Value.okWide Try.prog W .any base t v := hval0
  have hW' := hW
  obtain ⟨p, q, hA0, hV, rfl, hfz, hnd⟩ := hW
  have hA : DataW.TrodAll enc Try.prog W 0 (fun _ => true) true Try.f7.params.toList args.toList ds p := hA0
  rw [Try.params7] at hA hval
  obtain ⟨v0, vs0, d0, ds0, p0, q0, hargs, rfl, rfl, h0, r0⟩ := trodAll_cons hA
  obtain ⟨rfl, rfl, rfl⟩ := trodAll_nil r0
  obtain rfl : args = #[v0] := by cases args; simp_all
  obtain ⟨rfl, rfl⟩ := trodVars_none hV
  obtain ⟨a0, len0, cap0, rfl⟩ := okWide_slice Try.underlying40 (hval 0 40 v0 rfl rfl)
  have k0 := h0
  have lt0 : ∀ x ∈ p0, x.block < W.heap.size := by obtain ⟨m, hm⟩ := k0; exact DataW.trod_lt m _ _ _ hm
  obtain ⟨z0, w0⟩ : ∃ zs, IsRow .i64 W a0 len0 cap0 zs := by
    obtain ⟨fuel, hf⟩ := h0
    rcases open_ints Try.underlying40 Try.underlying2 (by kernel_rfl) hf with ⟨hcs, _⟩ | ⟨x, l, c, zs, hcs, _, hl, hm, hz, _, hcell, hwz⟩
    · simp [Value.cells] at hcs
      obtain ⟨rfl, rfl, rfl⟩ := hcs
      exact ⟨[], .inl ⟨rfl, rfl, rfl, rfl⟩⟩
    · simp [Value.cells] at hcs
      obtain ⟨rfl, rfl, rfl⟩ := hcs
      exact ⟨zs, .inr ⟨_, rfl, hl, hm, by simpa using hz, hcell, hwz⟩⟩
  clear hA0 hval0
  refine (walk a0 len0 cap0 z0 W w0).mono fun e W' ⟨he, bel⟩ => ?_
  subst he
  exact ⟨_, rfl, _, _, _, [], _, [], hW', trodAll_mk1 (shut_bool Try.underlying4 _), (trodAll_cons_mk (Below.trod laidOut (by kernel_rfl) (of_decide_eq_true (by kernel_rfl)) k0 bel lt0) trodAll_mk0), rfl, bel.frame _, fun h => by cases h⟩

theorem over : Rows.delayOnceRow.holds Try.pinned (OpenSpec.ofChange Rows.delayOnceSpec) :=
  OpenClaim.holds_of_wide 7 Try.f7 rfl rfl rfl rfl rfl rfl rfl ⟨rfl, rfl, rfl, rfl, rfl⟩ rfl rfl rfl rfl rfl (by kernel_rfl) Try.func7 (by kernel_rfl)
    (of_decide_eq_true (by kernel_rfl)) (by unfold Func.isWrapper; first | (rw [if_pos (by decide +kernel)]; kernel_rfl) | (rw [if_neg (by decide +kernel)]; exact ⟨rfl, rfl⟩))
    (fun os started H enc _ => lifted os started H enc)

/-- ████ THE STATEMENT ████ -/
theorem proved : Rows.DelayOnceSaid := over
#print axioms proved
end Go.Proofs.Ytjemamdldeeebaa.delayOnce

/- Proved: 'Rows.CrcUnlikeSaid': for every input fairleadlaw02.CrcUnlike returns true, and each argument reads afterwards as before. Conditions: none beyond the given row's own. (The frame round the walk was written by the kit's proof-skeleton.mjs.) -/
import Derived.Test.YtaccdonphilpoaaRows
import Derived.WalkKit
import Derived.ProofKit
import Derived.OpenShut
import Derived.ShutString
import Derived.ChangeOld
import Derived.Below
import Derived.Test.YtaccdonphilpoaaShell
import Derived.Test.YtaccdonphilpoaaBurst
import Derived.Test.YtaccdonphilpoaaWorks
import Derived.Test.YtaccdonphilpoaaWalkF
namespace Go.Proofs.Ytaccdonphilpoaa.crcUnlike
open Go.ChangeShapes Go.WideShapes Go.ChangeAt Go.RowKit
open Go.ChangeMaps (open_string shut_string)
set_option linter.unusedVariables false

theorem own : ownKnob Try.prog.godebug = none := by kernel_rfl
theorem laidOut : laidOutB Try.prog = true := by kernel_rfl

/-- WHAT THE WALK IS TOLD OF A SLICE OF INTEGERS THAT CAME IN: it is nil; or it leads to a row of 'cap' cells, the numbers 'zs' (the first 'len' are its elements, the rest its spare room), each fitting its kind. -/
def IsRow (k : IntKind) (w : World) (a : Option Addr) (len cap : Nat) (zs : List Int) : Prop :=
  (a = none ∧ len = 0 ∧ cap = 0 ∧ zs = []) ∨
  ∃ x, a = some x ∧ len ≤ cap ∧ cap ≤ maxLen ∧ zs.length = cap ∧ (∀ i, i < zs.length → w.cell? (x.add i) = some (.int k (zs.getD i 0))) ∧ ∀ n ∈ zs, (Lit.int k n).wf = true

/-! ### STEP 1: THE WALK: the Go text returns true, AND WRITES NOTHING THAT WAS THERE: 'Below w.heap.size w w'' (Derived/Below.lean: '.refl', '.alloc', '.drew', '.setCell' at a new block, '.trans'). Open each 'IsRow' by 'rcases' AHEAD of 'go_enter'; part every test ahead of the walk. -/
theorem walk (a0 : Option Addr) (len0 cap0 : Nat) (z0 : List Int) (a1 : Option Addr) (len1 cap1 : Nat) (z1 : List Int) (w : World) (w0 : IsRow .u8 w a0 len0 cap0 z0) (w1 : IsRow .u8 w a1 len1 cap1 z1) :
    Calls Try.prog 5 #[.slice a0 len0 cap0, .slice a1 len1 cap1] w fun e w' => e = .returned (.bool true) ∧ Below w.heap.size w w' := by
  obtain ⟨l, rfl, hr, hcap, hwf, _⟩ := M.row_of w0
  obtain ⟨l', rfl, hr', hcap', hwf', _⟩ := M.row_of w1
  have hb : M.Bytes l := fun n hn => M.wf_u8 (hwf n hn)
  have hb' : M.Bytes l' := fun n hn => M.wf_u8 (hwf' n hn)
  clear w0 w1 hwf hcap hwf' hcap'
  have HR := Lib.hid hr
  have HB := Lib.hid hb
  have HR' := Lib.hid hr'
  have HB' := Lib.hid hb'
  clear hr hb hr' hb'
  by_cases hbig : l.length > 4096
  · go_enter Try.func5, Try.ntmps5
    go_wp2_with (go_at_call 9; refine (works_any _).mono ?_; rintro e w' ⟨rfl, hB⟩)
    go_ret
    exact ⟨rfl, hB⟩
  by_cases hlen : l.length = l'.length
  case neg =>
    have hl1 : ((l.length : Int) != l'.length) = true := by simp; omega
    go_enter Try.func5, Try.ntmps5
    go_wp2_with (go_at_call 9; refine (works_any _).mono ?_; rintro e w' ⟨rfl, hB⟩)
    go_ret
    exact ⟨rfl, hB⟩
  have hl1 : ((l.length : Int) != l'.length) = false := by simp; omega
  have HL := Lib.hid hlen
  clear hlen
  go_enter Try.func5, Try.ntmps5
  go_wp2
  go_loopw [5, 6, 7] (fun f q i wr => ∃ (F Q : Int) (k : Nat), f = .int .i64 F ∧ q = .int .i64 Q ∧ i = .int .i64 k ∧ k ≤ 8 * l.length ∧ Hid (M.Seen (M.diff l l') k F Q) ∧ Hid (∃ n, wr = w.drewN n)) (fun _ _ i _ => 8 * l.length - (intOf i).toNat)
  case atStart => exact ⟨-1, -1, 0, rfl, rfl, rfl, Nat.zero_le _, Lib.hid (M.Seen.start _), 0, rfl⟩
  case round =>
    obtain ⟨F, Q, k, rfl, rfl, rfl, hk, HS, HD⟩ := hrel
    obtain ⟨n, rfl⟩ := HD.out
    clear HD
    by_cases hlt : k < 8 * l.length
    · obtain ⟨b, off, rfl, hc⟩ := HR.out.at_ (i := k / 8) (by omega)
      obtain ⟨b', off', rfl, hc'⟩ := HR'.out.at_ (i := k / 8) (by have := HL.out; omega)
      have hc8 := HB.out.getD (k / 8)
      have hc8' := HB'.out.getD (k / 8)
      obtain ⟨c, hcd⟩ : ∃ c, l.getD (k / 8) 0 = c := ⟨_, rfl⟩
      obtain ⟨c', hcd'⟩ : ∃ c, l'.getD (k / 8) 0 = c := ⟨_, rfl⟩
      rw [hcd] at hc hc8
      rw [hcd'] at hc' hc8'
      have ht := M.diff_test hc8 hc8' hcd hcd'
      clear hcd hcd'
      have hm8 : (k : Int) / 8 < l.length := by omega
      have hm8' : (k : Int) / 8 < l'.length := by have := HL.out; omega
      have hm0 : 0 ≤ (k : Int) / 8 := by omega
      have hkk : (k : Int) < 8 * (l.length : Int) := by omega
      have hbd := HS.out.bounds
      cases hd : M.diff l l' k with
      | false =>
        rw [hd] at ht
        have HT := Lib.hid (HS.out.no hd)
        clear hd
        go_wp2
        go_quiet (fail)
        go_wp2
        go_roundw
        case rel => exact ⟨F, Q, k + 1, rfl, rfl, by go_num, by omega, HT, _, rfl⟩
        case measure => (simp [intOf] <;> omega)
      | true =>
        rw [hd] at ht
        by_cases hF : F < 0
        · have HT := Lib.hid (HS.out.first hd hF)
          clear hd
          go_wp2
          go_quiet (fail)
          go_wp2
          go_roundw
          case rel => exact ⟨k, k, k + 1, rfl, rfl, by go_num, by omega, HT, _, rfl⟩
          case measure => (simp [intOf] <;> omega)
        · have HT := Lib.hid (HS.out.last hF)
          clear hd
          go_wp2
          go_quiet (fail)
          go_wp2
          go_roundw
          case rel => exact ⟨F, k, k + 1, rfl, rfl, by go_num, by omega, HT, _, rfl⟩
          case measure => (simp [intOf] <;> omega)
    · obtain rfl : k = 8 * l.length := by omega
      have hbd := HS.out.bounds
      by_cases hw : 32 ≤ Q - F
      · go_wp2_with (go_at_call 9; refine (works_any _).mono ?_; rintro e w' ⟨rfl, hB⟩)
        go_ret
        exact ⟨rfl, ⟨hB.os, hB.tape, hB.output, hB.size, hB.block⟩⟩
      · obtain ⟨S, hS⟩ : ∃ S, M.sumOf 0 l = S := ⟨_, rfl⟩
        obtain ⟨S', hS'⟩ : ∃ S, M.sumOf 0 l' = S := ⟨_, rfl⟩
        have C1 : Hid (Calls Try.prog 13 #[.slice a0 l.length cap0] (w.drewN n) fun e w' => e = .returned (.int .u32 S) ∧ w.drewN n = w') := by
          rw [Hid, ← hS]; exact sum_any a0 l cap0 _ (by omega) HR.out HB.out
        have C2 : Hid (Calls Try.prog 13 #[.slice a1 l'.length cap1] (w.drewN n) fun e w' => e = .returned (.int .u32 S') ∧ w.drewN n = w') := by
          rw [Hid, ← hS']; exact sum_any a1 l' cap1 _ (by have := HL.out; omega) HR'.out HB'.out
        have hq : ((S == S') == decide (F < 0)) = true := by
          by_cases hF : F < 0
          · have h := M.sums_like HB.out HB'.out HL.out HS.out hF
            rw [hS, hS'] at h
            simp [h, hF]
          · have h := M.sums_unlike HB.out HB'.out HL.out HS.out hF (by omega)
            rw [hS, hS'] at h
            simp [h, hF]
        clear hS hS'
        go_wp2_with (first
          | (go_at_call 13; (with_reducible refine C1.out.mono ?_); rintro e w' ⟨rfl, rfl⟩)
          | (go_at_call 13; (with_reducible refine C2.out.mono ?_); rintro e w' ⟨rfl, rfl⟩)
          | (go_at_call 9; (with_reducible refine (works_any _).mono ?_); rintro e w' ⟨rfl, hB⟩))
        go_ret
        exact ⟨rfl, ⟨hB.os, hB.tape, hB.output, hB.size, hB.block⟩⟩

/-! ### THE ROW's STEP: WRITTEN OUT: LEAVE IT -/
set_option maxRecDepth 100000 in
theorem lifted (os : Os) (started : os.Started) (H : Type) (enc : TypeId × Value → H) :
    ReturnsInHanded {} Try.checked os 5 .any (Rows.crcUnlikeSpec.pre6 enc Try.prog Try.f5 Rows.crcUnlikeRow.domain false) (Rows.crcUnlikeSpec.post enc Try.prog Try.f5 false true false false) := by
  refine returnsInHanded_of_change (C := Try.checked) own started (by kernel_rfl) Try.func5
    (ChangeSpec.witness6 (enc := enc) (C := Try.checked) false ⟨#[], #[.slice none 0 0, .slice none 0 0], []⟩ 8 (by kernel_rfl) (by kernel_rfl) (by kernel_rfl) (by kernel_rfl)) ?_
  intro W base args ds gs before hval0 hW hcnd _
  have hval : ∀ (j : Nat) t v, Try.f5.params[j]? = some t → args[j]? = some v → Value.okWide Try.prog W .any base t v := hval0
  have hW' := hW
  obtain ⟨p, q, hA0, hV, rfl, hfz, hnd⟩ := hW
  have hA : DataW.TrodAll enc Try.prog W 0 (fun _ => true) true Try.f5.params.toList args.toList ds p := hA0
  rw [Try.params5] at hA hval
  obtain ⟨v0, vs0, d0, ds0, p0, q0, hargs, rfl, rfl, h0, r0⟩ := trodAll_cons hA
  obtain ⟨v1, vs1, d1, ds1, p1, q1, rfl, rfl, rfl, h1, r1⟩ := trodAll_cons r0
  obtain ⟨rfl, rfl, rfl⟩ := trodAll_nil r1
  obtain rfl : args = #[v0, v1] := by cases args; simp_all
  obtain ⟨rfl, rfl⟩ := trodVars_none hV
  obtain ⟨a0, len0, cap0, rfl⟩ := okWide_slice Try.underlying22 (hval 0 22 v0 rfl rfl)
  have k0 := h0
  have lt0 : ∀ x ∈ p0, x.block < W.heap.size := by obtain ⟨m, hm⟩ := k0; exact DataW.trod_lt m _ _ _ hm
  obtain ⟨z0, w0⟩ : ∃ zs, IsRow .u8 W a0 len0 cap0 zs := by
    obtain ⟨fuel, hf⟩ := h0
    rcases open_ints Try.underlying22 Try.underlying5 (by kernel_rfl) hf with ⟨hcs, _⟩ | ⟨x, l, c, zs, hcs, _, hl, hm, hz, _, hcell, hwz⟩
    · simp [Value.cells] at hcs
      obtain ⟨rfl, rfl, rfl⟩ := hcs
      exact ⟨[], .inl ⟨rfl, rfl, rfl, rfl⟩⟩
    · simp [Value.cells] at hcs
      obtain ⟨rfl, rfl, rfl⟩ := hcs
      exact ⟨zs, .inr ⟨_, rfl, hl, hm, by simpa using hz, hcell, hwz⟩⟩
  obtain ⟨a1, len1, cap1, rfl⟩ := okWide_slice Try.underlying22 (hval 1 22 v1 rfl rfl)
  have k1 := h1
  have lt1 : ∀ x ∈ p1, x.block < W.heap.size := by obtain ⟨m, hm⟩ := k1; exact DataW.trod_lt m _ _ _ hm
  obtain ⟨z1, w1⟩ : ∃ zs, IsRow .u8 W a1 len1 cap1 zs := by
    obtain ⟨fuel, hf⟩ := h1
    rcases open_ints Try.underlying22 Try.underlying5 (by kernel_rfl) hf with ⟨hcs, _⟩ | ⟨x, l, c, zs, hcs, _, hl, hm, hz, _, hcell, hwz⟩
    · simp [Value.cells] at hcs
      obtain ⟨rfl, rfl, rfl⟩ := hcs
      exact ⟨[], .inl ⟨rfl, rfl, rfl, rfl⟩⟩
    · simp [Value.cells] at hcs
      obtain ⟨rfl, rfl, rfl⟩ := hcs
      exact ⟨zs, .inr ⟨_, rfl, hl, hm, by simpa using hz, hcell, hwz⟩⟩
  clear hA0 hval0
  refine (walk a0 len0 cap0 z0 a1 len1 cap1 z1 W w0 w1).mono fun e W' ⟨he, bel⟩ => ?_
  subst he
  exact ⟨_, rfl, _, _, _, [], _, [], hW', trodAll_mk1 (shut_bool Try.underlying4 _), (trodAll_cons_mk (Below.trod laidOut (by kernel_rfl) (of_decide_eq_true (by kernel_rfl)) k0 bel lt0) (trodAll_cons_mk (Below.trod laidOut (by kernel_rfl) (of_decide_eq_true (by kernel_rfl)) k1 bel lt1) trodAll_mk0)), rfl, bel.frame _, fun h => by cases h⟩

theorem over : Rows.crcUnlikeRow.holds Try.pinned (OpenSpec.ofChange Rows.crcUnlikeSpec) :=
  OpenClaim.holds_of_wide 5 Try.f5 rfl rfl rfl rfl rfl rfl rfl ⟨rfl, rfl, rfl, rfl, rfl⟩ rfl rfl rfl rfl rfl (by kernel_rfl) Try.func5 (by kernel_rfl)
    (of_decide_eq_true (by kernel_rfl)) (by unfold Func.isWrapper; first | (rw [if_pos (by decide +kernel)]; kernel_rfl) | (rw [if_neg (by decide +kernel)]; exact ⟨rfl, rfl⟩))
    (fun os started H enc _ => lifted os started H enc)

/-- ████ THE STATEMENT ████ -/
theorem proved : Rows.CrcUnlikeSaid := over
#print axioms proved
end Go.Proofs.Ytaccdonphilpoaa.crcUnlike

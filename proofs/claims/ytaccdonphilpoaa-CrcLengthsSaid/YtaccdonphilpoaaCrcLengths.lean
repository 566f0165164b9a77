/- Proved: 'Rows.CrcLengthsSaid': for every input fairleadlaw02.CrcLengths returns true, and each argument reads afterwards as before. Conditions: none beyond the given row's own. (The frame round the walk was written by the kit's proof-skeleton.mjs.) -/
import Derived.Test.YtaccdonphilpoaaRows
import Derived.WalkKit
import Derived.ProofKit
import Derived.OpenShut
import Derived.ShutString
import Derived.ChangeOld
import Derived.Below
import Derived.Test.YtaccdonphilpoaaShell
import Derived.Test.YtaccdonphilpoaaLin
import Derived.Test.YtaccdonphilpoaaWorks
import Derived.Test.YtaccdonphilpoaaWalkE
namespace Go.Proofs.Ytaccdonphilpoaa.crcLengths
open Go.ChangeShapes Go.WideShapes Go.ChangeAt Go.RowKit
open Go.ChangeMaps (open_string shut_string)
set_option linter.unusedVariables false

theorem own : ownKnob Try.prog.godebug = none := by kernel_rfl
theorem laidOut : laidOutB Try.prog = true := by kernel_rfl

/-- WHAT THE WALK IS TOLD OF A SLICE OF INTEGERS THAT CAME IN: it is nil; or it leads to a row of 'cap' cells, the numbers 'zs' (the first 'len' are its elements, the rest its spare room), each fitting its kind. -/
def IsRow (k : IntKind) (w : World) (a : Option Addr) (len cap : Nat) (zs : List Int) : Prop :=
  (a = none ∧ len = 0 ∧ cap = 0 ∧ zs = []) ∨
  ∃ x, a = some x ∧ len ≤ cap ∧ cap ≤ maxLen ∧ zs.length = cap ∧ (∀ i, i < zs.length → w.cell? (x.add i) = some (.int k (zs.getD i 0))) ∧ ∀ n ∈ zs, (Lit.int k n).wf = true

/-! ### STEP 1: THE WALK: the Go text returns true, AND WRITES NOTHING THAT WAS THERE: 'Below w.heap.size w w'' (Derived/Below.lean: '.refl', '.alloc', '.drew', '.setCell' at a new block, '.trans'). Open each 'IsRow' by 'rcases' AHEAD of 'go_enter'; part every test ahead of the walk. -/
theorem walk (a0 : Int) (a1 : Int) (a2 : Option Addr) (len2 cap2 : Nat) (z2 : List Int) (a3 : Int) (w : World) (w0 : (Lit.int .u32 a0).wf = true) (w1 : (Lit.int .u32 a1).wf = true) (w2 : IsRow .u8 w a2 len2 cap2 z2) (w3 : (Lit.int .u8 a3).wf = true) :
    Calls Try.prog 6 #[.int .u32 a0, .int .u32 a1, .slice a2 len2 cap2, .int .u8 a3] w fun e w' => e = .returned (.bool true) ∧ Below w.heap.size w w' := by
  obtain ⟨l, rfl, hr, hcap, hwf, _⟩ := M.row_of w2
  have hb : M.Bytes l := fun n hn => M.wf_u8 (hwf n hn)
  have hs := M.wf_u32 w0
  have ht := M.wf_u32 w1
  clear w0 w1 w2 w3 hwf hcap
  have HR := Lib.hid hr
  have HB := Lib.hid hb
  clear hr hb
  by_cases hbig : l.length > 8192
  · go_enter Try.func6, Try.ntmps6
    go_wp2_with (go_at_call 9; refine (works_any _).mono ?_; rintro e w' ⟨rfl, hB⟩)
    go_ret
    exact ⟨rfl, hB⟩
  · have hmk := run_mk l.length (by omega)
    go_enter Try.func6, Try.ntmps6
    go_wp2
    clear hmk
    go_loopw [10] (fun i wr => ∃ (k : Nat), i = .int .i64 k ∧ k ≤ l.length ∧ Hid (Below w.heap.size w wr ∧ ∃ c : List Int, c.length = l.length ∧ M.Bytes c ∧ M.Ints .u8 5 wr w.heap.size c)) (fun i _ => l.length - (intOf i).toNat)
    case atStart => exact ⟨0, rfl, Nat.zero_le _, (Below.refl _ _).alloc (Nat.le_refl _) _, _, by simp, M.Bytes.zeros _, M.Ints.zeros _ _ _ _⟩
    case round =>
      obtain ⟨k, rfl, hk, HI⟩ := hrel
      by_cases hlt : k < l.length
      · obtain ⟨b, off, rfl, hc⟩ := (HR.out.kept HI.out.1).at_ (i := l.length - 1 - k) (by omega)
        obtain ⟨c, hcd⟩ : ∃ c, l.getD (l.length - 1 - k) 0 = c := ⟨_, rfl⟩
        rw [hcd] at hc
        clear hcd
        obtain ⟨hbl, m, hm, hmb, hmi⟩ := HI.out
        have hd := hmi.cell (i := k) (by omega)
        have hf := hmi.free k
        have HM := Lib.hid hmi
        have HMB := Lib.hid hmb
        have HML := Lib.hid hm
        have HBL := Lib.hid hbl
        clear hmi hmb hm hbl
        have hi1 : 0 ≤ (l.length : Int) - 1 - k := by omega
        have hi2 : (l.length : Int) - 1 - k < l.length := by omega
        go_wp2
        have HS : Hid (Below w.heap.size w (wr.setCell ⟨w.heap.size, k, none⟩ (.int .u8 (Go.bits .xor .u8 c a3))) ∧ ∃ m : List Int, m.length = l.length ∧ M.Bytes m ∧ M.Ints .u8 5 (wr.setCell ⟨w.heap.size, k, none⟩ (.int .u8 (Go.bits .xor .u8 c a3))) w.heap.size m) :=
          ⟨HBL.out.setCell (p := ⟨w.heap.size, k, none⟩) (Nat.le_refl _) _, _, by rw [List.length_set]; exact HML.out, HMB.out.set k (M.xor_byte c a3), HM.out.set k _⟩
        go_roundw
        case rel => exact ⟨k + 1, by go_num, by omega, HS⟩
        case measure => (simp [intOf] <;> omega)
      · obtain ⟨hbl, m, hm, hmb, hmi⟩ := HI.out
        have HRW := Lib.hid (HR.out.kept hbl)
        have HM := Lib.hid hmi
        have HMB := Lib.hid hmb
        have HML := Lib.hid hm
        have HBL := Lib.hid hbl
        clear hmi hmb hm hbl
        obtain ⟨T1, h1⟩ : ∃ T, M.sumOf a0 l = T := ⟨_, rfl⟩
        obtain ⟨T2, h2⟩ : ∃ T, M.sumOf a1 l = T := ⟨_, rfl⟩
        obtain ⟨T3, h3⟩ : ∃ T, M.sumOf a0 m = T := ⟨_, rfl⟩
        obtain ⟨T4, h4⟩ : ∃ T, M.sumOf a1 m = T := ⟨_, rfl⟩
        obtain ⟨D, hD1⟩ : ∃ D, Go.bits .xor .u32 T1 T2 = D := ⟨_, rfl⟩
        have hD2 : Go.bits .xor .u32 T3 T4 = D := by rw [← hD1, ← h1, ← h2, ← h3, ← h4]; exact M.sums_same HB.out HMB.out HML.out
        have C1 : Hid (Calls Try.prog 11 #[.int .u32 a0, .slice a2 l.length cap2] wr fun e w' => e = .returned (.int .u32 T1) ∧ wr = w') := by
          rw [Hid, ← h1]; exact extend_any a0 a2 l cap2 wr (by omega) HRW.out HB.out hs
        have C2 : Hid (Calls Try.prog 11 #[.int .u32 a1, .slice a2 l.length cap2] wr fun e w' => e = .returned (.int .u32 T2) ∧ wr = w') := by
          rw [Hid, ← h2]; exact extend_any a1 a2 l cap2 wr (by omega) HRW.out HB.out ht
        have C3 : Hid (Calls Try.prog 11 #[.int .u32 a0, .slice (some ⟨w.heap.size, 0, none⟩) l.length l.length] wr fun e w' => e = .returned (.int .u32 T3) ∧ wr = w') := by
          rw [Hid, ← h3, ← HML.out]; exact extend_any a0 _ m _ wr (by rw [HML.out]; omega) HM.out.row HMB.out hs
        have C4 : Hid (Calls Try.prog 11 #[.int .u32 a1, .slice (some ⟨w.heap.size, 0, none⟩) l.length l.length] wr fun e w' => e = .returned (.int .u32 T4) ∧ wr = w') := by
          rw [Hid, ← h4, ← HML.out]; exact extend_any a1 _ m _ wr (by rw [HML.out]; omega) HM.out.row HMB.out ht
        have hq : ((D == 0) == (a0 == a1)) = true := by
          by_cases h : a0 = a1
          · have : D = 0 := by rw [← hD1, ← h1, ← h2]; exact M.sums_eq h
            subst this; subst h; simp
          · have : D ≠ 0 := by rw [← hD1, ← h1, ← h2]; exact M.sums_ne HB.out hs ht h
            have e1 : (D == 0) = false := by simpa using this
            have e2 : (a0 == a1) = false := by simpa using h
            rw [e1, e2]; rfl
        clear h1 h2 h3 h4
        go_wp2_with (first
          | (go_at_call 11; (with_reducible refine C1.out.mono ?_); rintro e w' ⟨rfl, rfl⟩)
          | (go_at_call 11; (with_reducible refine C2.out.mono ?_); rintro e w' ⟨rfl, rfl⟩)
          | (go_at_call 11; (with_reducible refine C3.out.mono ?_); rintro e w' ⟨rfl, rfl⟩)
          | (go_at_call 11; (with_reducible refine C4.out.mono ?_); rintro e w' ⟨rfl, rfl⟩)
          | (go_at_call 9; (with_reducible refine (works_any _).mono ?_); rintro e w' ⟨rfl, hB⟩))
        go_ret
        exact ⟨rfl, HBL.out.trans (hB.mono HBL.out.size)⟩

/-! ### THE ROW's STEP: WRITTEN OUT: LEAVE IT -/
set_option maxRecDepth 100000 in
theorem lifted (os : Os) (started : os.Started) (H : Type) (enc : TypeId × Value → H) :
    ReturnsInHanded {} Try.checked os 6 .any (Rows.crcLengthsSpec.pre6 enc Try.prog Try.f6 Rows.crcLengthsRow.domain false) (Rows.crcLengthsSpec.post enc Try.prog Try.f6 false true false false) := by
  refine returnsInHanded_of_change (C := Try.checked) own started (by kernel_rfl) Try.func6
    (ChangeSpec.witness6 (enc := enc) (C := Try.checked) false ⟨#[], #[.int .u32 0, .int .u32 0, .slice none 0 0, .int .u8 0], []⟩ 8 (by kernel_rfl) (by kernel_rfl) (by kernel_rfl) (by kernel_rfl)) ?_
  intro W base args ds gs before hval0 hW hcnd _
  have hval : ∀ (j : Nat) t v, Try.f6.params[j]? = some t → args[j]? = some v → Value.okWide Try.prog W .any base t v := hval0
  have hW' := hW
  obtain ⟨p, q, hA0, hV, rfl, hfz, hnd⟩ := hW
  have hA : DataW.TrodAll enc Try.prog W 0 (fun _ => true) true Try.f6.params.toList args.toList ds p := hA0
  rw [Try.params6] at hA hval
  obtain ⟨v0, vs0, d0, ds0, p0, q0, hargs, rfl, rfl, h0, r0⟩ := trodAll_cons hA
  obtain ⟨v1, vs1, d1, ds1, p1, q1, rfl, rfl, rfl, h1, r1⟩ := trodAll_cons r0
  obtain ⟨v2, vs2, d2, ds2, p2, q2, rfl, rfl, rfl, h2, r2⟩ := trodAll_cons r1
  obtain ⟨v3, vs3, d3, ds3, p3, q3, rfl, rfl, rfl, h3, r3⟩ := trodAll_cons r2
  obtain ⟨rfl, rfl, rfl⟩ := trodAll_nil r3
  obtain rfl : args = #[v0, v1, v2, v3] := by cases args; simp_all
  obtain ⟨rfl, rfl⟩ := trodVars_none hV
  obtain ⟨a0, rfl, rfl, rfl, w0⟩ := open_int Try.underlying23 (hval 0 23 v0 rfl rfl) h0
  obtain ⟨a1, rfl, rfl, rfl, w1⟩ := open_int Try.underlying23 (hval 1 23 v1 rfl rfl) h1
  obtain ⟨a2, len2, cap2, rfl⟩ := okWide_slice Try.underlying22 (hval 2 22 v2 rfl rfl)
  have k2 := h2
  have lt2 : ∀ x ∈ p2, x.block < W.heap.size := by obtain ⟨m, hm⟩ := k2; exact DataW.trod_lt m _ _ _ hm
  obtain ⟨z2, w2⟩ : ∃ zs, IsRow .u8 W a2 len2 cap2 zs := by
    obtain ⟨fuel, hf⟩ := h2
    rcases open_ints Try.underlying22 Try.underlying5 (by kernel_rfl) hf with ⟨hcs, _⟩ | ⟨x, l, c, zs, hcs, _, hl, hm, hz, _, hcell, hwz⟩
    · simp [Value.cells] at hcs
      obtain ⟨rfl, rfl, rfl⟩ := hcs
      exact ⟨[], .inl ⟨rfl, rfl, rfl, rfl⟩⟩
    · simp [Value.cells] at hcs
      obtain ⟨rfl, rfl, rfl⟩ := hcs
      exact ⟨zs, .inr ⟨_, rfl, hl, hm, by simpa using hz, hcell, hwz⟩⟩
  obtain ⟨a3, rfl, rfl, rfl, w3⟩ := open_int Try.underlying5 (hval 3 5 v3 rfl rfl) h3
  clear hA0 hval0
  refine (walk a0 a1 a2 len2 cap2 z2 a3 W w0 w1 w2 w3).mono fun e W' ⟨he, bel⟩ => ?_
  subst he
  exact ⟨_, rfl, _, _, _, [], _, [], hW', trodAll_mk1 (shut_bool Try.underlying4 _), (trodAll_cons_mk (shut_int Try.underlying23 w0) (trodAll_cons_mk (shut_int Try.underlying23 w1) (trodAll_cons_mk (Below.trod laidOut (by kernel_rfl) (of_decide_eq_true (by kernel_rfl)) k2 bel lt2) (trodAll_cons_mk (shut_int Try.underlying5 w3) trodAll_mk0)))), rfl, bel.frame _, fun h => by cases h⟩

theorem over : Rows.crcLengthsRow.holds Try.pinned (OpenSpec.ofChange Rows.crcLengthsSpec) :=
  OpenClaim.holds_of_wide 6 Try.f6 rfl rfl rfl rfl rfl rfl rfl ⟨rfl, rfl, rfl, rfl, rfl⟩ rfl rfl rfl rfl rfl (by kernel_rfl) Try.func6 (by kernel_rfl)
    (of_decide_eq_true (by kernel_rfl)) (by unfold Func.isWrapper; first | (rw [if_pos (by decide +kernel)]; kernel_rfl) | (rw [if_neg (by decide +kernel)]; exact ⟨rfl, rfl⟩))
    (fun os started H enc _ => lifted os started H enc)

/-- ████ THE STATEMENT ████ -/
theorem proved : Rows.CrcLengthsSaid := over
#print axioms proved
end Go.Proofs.Ytaccdonphilpoaa.crcLengths

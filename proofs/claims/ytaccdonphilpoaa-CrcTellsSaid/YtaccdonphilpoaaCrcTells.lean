/- Proved: 'Rows.CrcTellsSaid': for every input fairleadlaw02.CrcTells returns true, and each argument reads afterwards as before. Conditions: none beyond the given row's own. (The frame round the walk was written by the kit's proof-skeleton.mjs.) -/
import Derived.Test.YtaccdonphilpoaaRows
import Derived.WalkKit
import Derived.ProofKit
import Derived.OpenShut
import Derived.ShutString
import Derived.ChangeOld
import Derived.Below
import Derived.Test.YtaccdonphilpoaaShell
import Derived.Test.YtaccdonphilpoaaLin
import Derived.Test.YtaccdonphilpoaaWorks
import Derived.Test.YtaccdonphilpoaaWalkF
namespace Go.Proofs.Ytaccdonphilpoaa.crcTells
open Go.ChangeShapes Go.WideShapes Go.ChangeAt Go.RowKit
open Go.ChangeMaps (open_string shut_string)
set_option linter.unusedVariables false

theorem own : ownKnob Try.prog.godebug = none := by kernel_rfl
theorem laidOut : laidOutB Try.prog = true := by kernel_rfl

/-- WHAT THE WALK IS TOLD OF A SLICE OF INTEGERS THAT CAME IN: it is nil; or it leads to a row of 'cap' cells, the numbers 'zs' (the first 'len' are its elements, the rest its spare room), each fitting its kind. -/
def IsRow (k : IntKind) (w : World) (a : Option Addr) (len cap : Nat) (zs : List Int) : Prop :=
  (a = none ∧ len = 0 ∧ cap = 0 ∧ zs = []) ∨
  ∃ x, a = some x ∧ len ≤ cap ∧ cap ≤ maxLen ∧ zs.length = cap ∧ (∀ i, i < zs.length → w.cell? (x.add i) = some (.int k (zs.getD i 0))) ∧ ∀ n ∈ zs, (Lit.int k n).wf = true

/-- The seven calls behind Roomy, each with what it answers. -/
theorem calls_of (a0 : Option Addr) (l : List Int) (cap0 k : Nat) (a1 : Int) (w : World) (hl : l.length ≤ 1000000) (hk : k ≤ l.length) (hr : M.Row .u8 w a0 l) (hb : M.Bytes l) (hs : 0 ≤ a1 ∧ a1 ≤ 4294967295) :
    ∀ (w1 : World) (m : List Int), Below w.heap.size w w1 → M.Marked l m → M.Ints .u8 5 w1 w.heap.size m → ∃ T T1 : Int, (l.length = k → T1 = T) ∧ (0 ≤ T1 ∧ T1 ≤ 4294967295) ∧ Hid (
      Calls Try.prog 11 #[.int .u32 a1, .slice (some ⟨w.heap.size, 0, none⟩) k (l.length + 16)] w1 (fun e w' => e = .returned (.int .u32 T1) ∧ w1 = w') ∧
      Calls Try.prog 12 #[.int .u32 a1, .slice a0 k cap0] w1 (fun e w' => e = .returned (.int .u32 T1) ∧ w1 = w') ∧
      Calls Try.prog 11 #[.int .u32 T1, .slice (some ⟨w.heap.size, k, none⟩) (l.length - k) (l.length + 16 - k)] w1 (fun e w' => e = .returned (.int .u32 T) ∧ w1 = w') ∧
      Calls Try.prog 12 #[.int .u32 a1, .slice a0 l.length cap0] w1 (fun e w' => e = .returned (.int .u32 T) ∧ w1 = w') ∧
      Calls Try.prog 13 #[.slice (some ⟨w.heap.size, 0, none⟩) l.length (l.length + 16)] w1 (fun e w' => e = .returned (.int .u32 (M.sumOf 0 l)) ∧ w1 = w') ∧
      Calls Try.prog 12 #[.int .u32 0, .slice a0 l.length cap0] w1 (fun e w' => e = .returned (.int .u32 (M.sumOf 0 l)) ∧ w1 = w') ∧
      Calls Try.prog 14 #[.slice (some ⟨w.heap.size, 0, none⟩) l.length (l.length + 16), .slice a0 l.length cap0] w1 (fun e w' => e = .returned (.bool true) ∧ ∃ n, w' = w1.drewN n)) := by
  intro w1 m hbl hm hi
  have hr1 := hr.kept hbl
  have p0 : M.Row .u8 w1 (some ⟨w.heap.size, 0, none⟩) l := by
    have h := hi.part 0 l.length (by rw [hm.1]; omega)
    rwa [hm.part 0 l.length (by omega), List.drop_zero, List.take_length] at h
  have pk : M.Row .u8 w1 (some ⟨w.heap.size, k, none⟩) (l.drop k) := by
    have h := hi.part k (l.length - k) (by rw [hm.1]; omega)
    rwa [hm.part k (l.length - k) (by omega), List.take_of_length_le (by simp)] at h
  have e1 : (l.take k).length = k := by simp; omega
  have e2 : (l.drop k).length = l.length - k := by simp
  refine ⟨M.sumOf a1 l, M.sumOf a1 (l.take k), fun h => by rw [← h, List.take_length], M.sumOf_range _ _, ?_, ?_, ?_, ?_, ?_, ?_, ?_⟩
  · have h := extend_any a1 _ (l.take k) (l.length + 16) w1 (by omega) (p0.take k) (hb.take k) hs
    rwa [e1] at h
  · have h := refExtend_any a1 a0 (l.take k) cap0 w1 (by omega) (hr1.take k) (hb.take k) hs
    rwa [e1] at h
  · have h := extend_any (M.sumOf a1 (l.take k)) _ (l.drop k) (l.length + 16 - k) w1 (by omega) pk (hb.drop k) (M.sumOf_range _ _)
    rwa [e2, M.sumOf_append, List.take_append_drop] at h
  · exact refExtend_any a1 a0 l cap0 w1 hl hr1 hb hs
  · exact sum_any _ l _ w1 hl p0 hb
  · exact refExtend_any 0 a0 l cap0 w1 hl hr1 hb (by omega)
  · exact kept_any _ a0 l m cap0 w1 hl hm hi hr1

/-! ### STEP 1: THE WALK: the Go text returns true, AND WRITES NOTHING THAT WAS THERE: 'Below w.heap.size w w'' (Derived/Below.lean: '.refl', '.alloc', '.drew', '.setCell' at a new block, '.trans'). Open each 'IsRow' by 'rcases' AHEAD of 'go_enter'; part every test ahead of the walk. -/
theorem walk (a0 : Option Addr) (len0 cap0 : Nat) (z0 : List Int) (a1 : Int) (a2 : Int) (w : World) (w0 : IsRow .u8 w a0 len0 cap0 z0) (w1 : (Lit.int .u32 a1).wf = true) (w2 : (Lit.int .u16 a2).wf = true) :
    Calls Try.prog 3 #[.slice a0 len0 cap0, .int .u32 a1, .int .u16 a2] w fun e w' => e = .returned (.bool true) ∧ Below w.heap.size w w' := by
  have hA : a0 = none ∧ len0 = 0 ∧ cap0 = 0 ∨ ∃ x, a0 = some x := by
    rcases w0 with ⟨h1, h2, h3, _⟩ | ⟨x, h, _⟩
    · exact .inl ⟨h1, h2, h3⟩
    · exact .inr ⟨x, h⟩
  obtain ⟨l, rfl, hr, hcap, hwf, _⟩ := M.row_of w0
  have hb : M.Bytes l := fun n hn => M.wf_u8 (hwf n hn)
  have hs := M.wf_u32 w1
  have hu := M.wf_u16 w2
  clear w0 w1 w2 hwf
  have HR := Lib.hid hr
  have HB := Lib.hid hb
  clear hr hb
  by_cases hbig : l.length > 32768
  · clear hA
    go_enter Try.func3, Try.ntmps3
    go_wp2_with (go_at_call 9; refine (works_any _).mono ?_; rintro e w' ⟨rfl, hB⟩)
    go_ret
    exact ⟨rfl, hB⟩
  · obtain ⟨k, hk, hkl⟩ : ∃ k : Nat, a2 % ((l.length : Int) + 1) = k ∧ k ≤ l.length := by
      have h1 := Int.emod_nonneg a2 (b := (l.length : Int) + 1) (by omega)
      have h2 := Int.emod_lt_of_pos a2 (b := (l.length : Int) + 1) (by omega)
      exact ⟨(a2 % ((l.length : Int) + 1)).toNat, by omega, by omega⟩
    have hu0 : 0 ≤ a2 := hu.1
    have hu0 : 0 ≤ a2 := hu.1
    have C0 := Lib.hid (roomy_any a0 l cap0 w (by omega) HR.out)
    have HC := Lib.hid (calls_of a0 l cap0 k a1 w (by omega) hkl HR.out HB.out hs)
    rcases hA with ⟨rfl, h0, rfl⟩ | ⟨x, rfl⟩
    · obtain rfl := List.eq_nil_of_length_eq_zero h0
      obtain rfl : k = 0 := by simpa using hkl
      clear h0 hkl hcap hbig
      simp only [List.length_nil, Nat.zero_add, Nat.sub_zero] at C0 HC
      have hk0 : a2 % (0 + 1) = 0 := by omega
      have hk1 : a2 % 1 = 0 := by omega
      go_enter Try.func3, Try.ntmps3
      go_wp2_with fail
      (go_at_call 10; (with_reducible refine C0.out.mono ?_); rintro e w1 ⟨rfl, HW⟩)
      obtain ⟨hbl, m, hm, hi⟩ := HW.out
      have HBL := Lib.hid hbl
      obtain ⟨T, T1, hTT, hT1, E⟩ := HC.out w1 m hbl hm hi
      obtain rfl := hTT trivial
      obtain ⟨E1, E2, E3, E4, E5, E6, E7⟩ := E.out
      have F1 := Lib.hid E1
      have F2 := Lib.hid E2
      have F3 := Lib.hid E3
      have F4 := Lib.hid E4
      have F5 := Lib.hid E5
      have F6 := Lib.hid E6
      have F7 := Lib.hid E7
      clear E E1 E2 E3 E4 E5 E6 E7 HC HW hbl hm hi C0
      go_wp2_with (first
        | (go_at_call 11; (with_reducible refine F1.out.mono ?_); rintro e w' ⟨rfl, rfl⟩)
        | (go_at_call 12; (with_reducible refine F2.out.mono ?_); rintro e w' ⟨rfl, rfl⟩)
        | (go_at_call 11; (with_reducible refine F3.out.mono ?_); rintro e w' ⟨rfl, rfl⟩)
        | (go_at_call 12; (with_reducible refine F4.out.mono ?_); rintro e w' ⟨rfl, rfl⟩)
        | (go_at_call 13; (with_reducible refine F5.out.mono ?_); rintro e w' ⟨rfl, rfl⟩)
        | (go_at_call 12; (with_reducible refine F6.out.mono ?_); rintro e w' ⟨rfl, rfl⟩)
        | (go_at_call 14; (with_reducible refine F7.out.mono ?_); rintro e w' ⟨rfl, n, rfl⟩)
        | (go_at_call 9; (with_reducible refine (works_any _).mono ?_); rintro e w' ⟨rfl, hB⟩))
      go_ret
      have hB' : Below w1.heap.size w1 _ := ⟨hB.os, hB.tape, hB.output, hB.size, hB.block⟩
      exact ⟨rfl, HBL.out.trans (hB'.mono HBL.out.size)⟩
    · go_enter Try.func3, Try.ntmps3
      go_wp2_with fail
      (go_at_call 10; (with_reducible refine C0.out.mono ?_); rintro e w1 ⟨rfl, HW⟩)
      obtain ⟨hbl, m, hm, hi⟩ := HW.out
      have HBL := Lib.hid hbl
      obtain ⟨T, T1, hTT, hT1, E⟩ := HC.out w1 m hbl hm hi
      clear hTT
      obtain ⟨E1, E2, E3, E4, E5, E6, E7⟩ := E.out
      have F1 := Lib.hid E1
      have F2 := Lib.hid E2
      have F3 := Lib.hid E3
      have F4 := Lib.hid E4
      have F5 := Lib.hid E5
      have F6 := Lib.hid E6
      have F7 := Lib.hid E7
      clear E E1 E2 E3 E4 E5 E6 E7 HC HW hbl hm hi C0
      go_wp2_with (first
        | (go_at_call 11; (with_reducible refine F1.out.mono ?_); rintro e w' ⟨rfl, rfl⟩)
        | (go_at_call 12; (with_reducible refine F2.out.mono ?_); rintro e w' ⟨rfl, rfl⟩)
        | (go_at_call 11; (with_reducible refine F3.out.mono ?_); rintro e w' ⟨rfl, rfl⟩)
        | (go_at_call 12; (with_reducible refine F4.out.mono ?_); rintro e w' ⟨rfl, rfl⟩)
        | (go_at_call 13; (with_reducible refine F5.out.mono ?_); rintro e w' ⟨rfl, rfl⟩)
        | (go_at_call 12; (with_reducible refine F6.out.mono ?_); rintro e w' ⟨rfl, rfl⟩)
        | (go_at_call 14; (with_reducible refine F7.out.mono ?_); rintro e w' ⟨rfl, n, rfl⟩)
        | (go_at_call 9; (with_reducible refine (works_any _).mono ?_); rintro e w' ⟨rfl, hB⟩))
      go_ret
      have hB' : Below w1.heap.size w1 _ := ⟨hB.os, hB.tape, hB.output, hB.size, hB.block⟩
      exact ⟨rfl, HBL.out.trans (hB'.mono HBL.out.size)⟩

/-! ### THE ROW's STEP: WRITTEN OUT: LEAVE IT -/
set_option maxRecDepth 100000 in
theorem lifted (os : Os) (started : os.Started) (H : Type) (enc : TypeId × Value → H) :
    ReturnsInHanded {} Try.checked os 3 .any (Rows.crcTellsSpec.pre6 enc Try.prog Try.f3 Rows.crcTellsRow.domain false) (Rows.crcTellsSpec.post enc Try.prog Try.f3 false true false false) := by
  refine returnsInHanded_of_change (C := Try.checked) own started (by kernel_rfl) Try.func3
    (ChangeSpec.witness6 (enc := enc) (C := Try.checked) false ⟨#[], #[.slice none 0 0, .int .u32 0, .int .u16 0], []⟩ 8 (by kernel_rfl) (by kernel_rfl) (by kernel_rfl) (by kernel_rfl)) ?_
  intro W base args ds gs before hval0 hW hcnd _
  have hval : ∀ (j : Nat) t v, Try.f3.params[j]? = some t → args[j]? = some v → Value.okWide Try.prog W .any base t v := hval0
  have hW' := hW
  obtain ⟨p, q, hA0, hV, rfl, hfz, hnd⟩ := hW
  have hA : DataW.TrodAll enc Try.prog W 0 (fun _ => true) true Try.f3.params.toList args.toList ds p := hA0
  rw [Try.params3] at hA hval
  obtain ⟨v0, vs0, d0, ds0, p0, q0, hargs, rfl, rfl, h0, r0⟩ := trodAll_cons hA
  obtain ⟨v1, vs1, d1, ds1, p1, q1, rfl, rfl, rfl, h1, r1⟩ := trodAll_cons r0
  obtain ⟨v2, vs2, d2, ds2, p2, q2, rfl, rfl, rfl, h2, r2⟩ := trodAll_cons r1
  obtain ⟨rfl, rfl, rfl⟩ := trodAll_nil r2
  obtain rfl : args = #[v0, v1, v2] := by cases args; simp_all
  obtain ⟨rfl, rfl⟩ := trodVars_none hV
  obtain ⟨a0, len0, cap0, rfl⟩ := okWide_slice Try.underlying22 (hval 0 22 v0 rfl rfl)
  have k0 := h0
  have lt0 : ∀ x ∈ p0, x.block < W.heap.size := by obtain ⟨m, hm⟩ := k0; exact DataW.trod_lt m _ _ _ hm
  obtain ⟨z0, w0⟩ : ∃ zs, IsRow .u8 W a0 len0 cap0 zs := by
    obtain ⟨fuel, hf⟩ := h0
    rcases open_ints Try.underlying22 Try.underlying5 (by kernel_rfl) hf with ⟨hcs, _⟩ | ⟨x, l, c, zs, hcs, _, hl, hm, hz, _, hcell, hwz⟩
    · simp [Value.cells] at hcs
      obtain ⟨rfl, rfl, rfl⟩ := hcs
      exact ⟨[], .inl ⟨rfl, rfl, rfl, rfl⟩⟩
    · simp [Value.cells] at hcs
      obtain ⟨rfl, rfl, rfl⟩ := hcs
      exact ⟨zs, .inr ⟨_, rfl, hl, hm, by simpa using hz, hcell, hwz⟩⟩
  obtain ⟨a1, rfl, rfl, rfl, w1⟩ := open_int Try.underlying23 (hval 1 23 v1 rfl rfl) h1
  obtain ⟨a2, rfl, rfl, rfl, w2⟩ := open_int Try.underlying24 (hval 2 24 v2 rfl rfl) h2
  clear hA0 hval0
  refine (walk a0 len0 cap0 z0 a1 a2 W w0 w1 w2).mono fun e W' ⟨he, bel⟩ => ?_
  subst he
  exact ⟨_, rfl, _, _, _, [], _, [], hW', trodAll_mk1 (shut_bool Try.underlying4 _), (trodAll_cons_mk (Below.trod laidOut (by kernel_rfl) (of_decide_eq_true (by kernel_rfl)) k0 bel lt0) (trodAll_cons_mk (shut_int Try.underlying23 w1) (trodAll_cons_mk (shut_int Try.underlying24 w2) trodAll_mk0))), rfl, bel.frame _, fun h => by cases h⟩

theorem over : Rows.crcTellsRow.holds Try.pinned (OpenSpec.ofChange Rows.crcTellsSpec) :=
  OpenClaim.holds_of_wide 3 Try.f3 rfl rfl rfl rfl rfl rfl rfl ⟨rfl, rfl, rfl, rfl, rfl⟩ rfl rfl rfl rfl rfl (by kernel_rfl) Try.func3 (by kernel_rfl)
    (of_decide_eq_true (by kernel_rfl)) (by unfold Func.isWrapper; first | (rw [if_pos (by decide +kernel)]; kernel_rfl) | (rw [if_neg (by decide +kernel)]; exact ⟨rfl, rfl⟩))
    (fun os started H enc _ => lifted os started H enc)

/-- ████ THE STATEMENT ████ -/
theorem proved : Rows.CrcTellsSaid := over
#print axioms proved
end Go.Proofs.Ytaccdonphilpoaa.crcTells

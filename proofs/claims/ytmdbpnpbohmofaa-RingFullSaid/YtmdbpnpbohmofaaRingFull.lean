/- Proved: 'Rows.RingFullSaid': for every input fairleadlaw05.RingFull returns true, and each argument reads afterwards as before. Conditions: none beyond the given row's own. -/
import Derived.Test.YtmdbpnpbohmofaaRows
import Derived.WalkKit
import Derived.ProofKit
import Derived.OpenShut
import Derived.ShutString
import Derived.ChangeOld
import Derived.ChangeMaps5
import Derived.Below
import Derived.Test.YtmdbpnpbohmofaaWalkUB
import Derived.Test.YtmdbpnpbohmofaaWalkUD
import Derived.Test.YtmdbpnpbohmofaaWorks
namespace Go.Proofs.Ytmdbpnpbohmofaa.ringFull
open Go.ChangeShapes Go.WideShapes Go.ChangeAt Go.RowKit
open Go.ChangeMaps (open_string shut_string)
set_option linter.unusedVariables false
open M

theorem own : ownKnob Try.prog.godebug = none := by kernel_rfl
theorem laidOut : laidOutB Try.prog = true := by kernel_rfl

set_option maxHeartbeats 1000000 in
set_option maxRecDepth 100000 in
theorem walk (a0 : Int) (a1 : Int) (w : World) (w0 : (Lit.int .u16 a0).wf = true) (w1 : (Lit.int .u32 a1).wf = true) :
    Calls Try.prog 3 #[.int .u16 a0, .int .u32 a1] w fun e w' => e = .returned (.bool true) ∧ Below w.heap.size w w' := by
  have hx := wf_u32 w1
  have hb := wf_u16 w0
  clear w0 w1
  obtain ⟨h0, h1⟩ := hb
  obtain ⟨x0, x1⟩ := hx
  obtain ⟨n, hn⟩ : ∃ n : Nat, 1 + a0 % 3000 = (n : Int) := ⟨(1 + a0 % 3000).toNat, by omega⟩
  have n1 : 1 ≤ (n : Int) := by omega
  have n2 : (n : Int) ≤ 1048576 := by omega
  obtain ⟨b, hb⟩ : ∃ b, w.heap.size + 1 = b := ⟨_, rfl⟩
  have CN := newU n n rfl w n1 n2
  rw [hb] at CN
  have CN := Lib.hid CN
  clear hb
  go_enter Try.func3, Try.ntmps3
  go_wp2_with fail
  (go_at_call 10; (with_reducible refine CN.out.mono ?_); rintro e w1 ⟨rfl, HH⟩)
  clear CN
  go_wp2_with fail
  have HN := Lib.hid hn
  clear hn
  obtain ⟨wo, hwo⟩ : ∃ wo : World, wo = w1 := ⟨_, rfl⟩
  subst hwo
  go_loopw [8] (fun t wr => ∃ k : Nat, t = .int .i64 k ∧ k ≤ 2 ∧ Hid (Holds 72 23 w wr b n [])) (fun t _ => 2 - (intOf t).toNat)
  case atStart => exact ⟨0, rfl, by omega, HH⟩
  case round =>
  clear HH
  obtain ⟨k, rfl, hk, HH⟩ := hrel
  by_cases hlt : k < 2
  case neg =>
    have h2 : (2 : Int) ≤ (k : Int) := by omega
    have HB := Lib.hid HH.out.below
    clear HH
    go_wp2_with (go_at_call 16; (with_reducible refine (works_any _).mono ?_); rintro e w4 ⟨rfl, hB⟩)
    go_ret
    exact ⟨rfl, HB.out.trans (hB.mono HB.out.size)⟩
  have hlt' : (k : Int) < 2 := by omega
  go_wp2_with fail
  obtain ⟨wi, hwi⟩ : ∃ wi : World, wi = wr := ⟨_, rfl⟩
  subst hwi
  go_loopw [9] (fun i wr => ∃ (j : Nat) (l : List Int), i = .int .i64 j ∧ j ≤ n ∧ l.length = j ∧ Hid (0 < j → ∃ l', l = a1 :: l') ∧ Hid (Holds 72 23 w wr b n (l.map (Value.int .u32)))) (fun i _ => n - (intOf i).toNat)
  case atStart => exact ⟨0, [], rfl, by omega, rfl, Lib.hid (fun h => absurd h (by omega)), HH⟩
  case round =>
    clear HH
    obtain ⟨j, l, rfl, hj, hl, HF, HH⟩ := hrel
    by_cases hjn : j < n
    · have hjn' : (j : Int) < (n : Int) := by omega
      have CR := Lib.hid (roomU HH.out ((n : Int) - j) (by rw [List.length_map, hl]))
      clear HH
      have HL := Lib.hid hl
      clear hl
      go_wp2_with fail
      (go_at_call 11; (with_reducible refine CR.out.mono ?_); rintro e w2 ⟨rfl, HH⟩)
      clear CR
      go_wp2_with fail
      have CP := Lib.hid (pushU HH.out (by rw [List.length_map, HL.out]; exact hjn) ((a1 + (j : Int)) % 4294967296))
      clear HH
      (go_at_call 12; (with_reducible refine CP.out.mono ?_); rintro e w3 ⟨rfl, HH⟩)
      clear CP
      have H2 : Hid (Holds 72 23 w w3 b n ((l ++ [(a1 + (j : Int)) % 4294967296]).map (Value.int .u32))) := by rw [List.map_append]; exact HH
      have HF2 : Hid (∃ l', l ++ [(a1 + (j : Int)) % 4294967296] = a1 :: l') := by
        rcases Nat.eq_zero_or_pos j with hz | hp
        · have hl0 : l = [] := List.eq_nil_of_length_eq_zero (by rw [HL.out, hz])
          refine ⟨[], ?_⟩
          rw [hl0, List.nil_append, hz]
          congr 1
          omega
        · obtain ⟨l', hl'⟩ := HF.out hp
          exact ⟨l' ++ [(a1 + (j : Int)) % 4294967296], by rw [hl']; rfl⟩
      clear HH HF
      go_wp2_with fail
      go_roundw
      case rel => exact ⟨j + 1, _, by go_num, by omega, by rw [List.length_append, HL.out]; rfl, Lib.hid fun _ => HF2.out, H2⟩
      case measure => (simp [intOf] <;> omega)
    · obtain rfl : j = n := by omega
      obtain ⟨l', rfl⟩ := HF.out (by omega)
      have hl' : l'.length + 1 = j := hl
      have HL := Lib.hid hl'
      clear hl hl' HF
      have hnn : ¬ (j : Int) < (j : Int) := by omega
      have CP := Lib.hid (popU (x := a1) (xs := l'.map (Value.int .u32)) HH.out)
      clear HH
      go_wp2_with fail
      (go_at_call 13; (with_reducible refine CP.out.mono ?_); rintro e w2 ⟨rfl, HH⟩)
      clear CP
      have CP := Lib.hid (pushU HH.out (by rw [List.length_map]; have := HL.out; omega) a1)
      clear HH
      go_wp2_with fail
      (go_at_call 12; (with_reducible refine CP.out.mono ?_); rintro e w3 ⟨rfl, HH⟩)
      clear CP
      have CP := Lib.hid (pushU_no HH.out (by rw [List.length_append, List.length_map]; exact HL.out) a1)
      go_wp2_with fail
      (go_at_call 12; (with_reducible refine CP.out.mono ?_); rintro e w' ⟨rfl, rfl⟩)
      clear CP
      have CL := Lib.hid (lenU HH.out (j : Int) (by rw [List.length_append, List.length_map]; have := HL.out; simp; omega))
      have CR := Lib.hid (roomU HH.out 0 (by rw [List.length_append, List.length_map]; have := HL.out; simp; omega))
      clear HH
      go_wp2_with fail
      (go_at_call 14; (with_reducible refine CL.out.mono ?_); rintro e w' ⟨rfl, rfl⟩)
      clear CL
      go_wp2_with fail
      (go_at_call 11; (with_reducible refine CR.out.mono ?_); rintro e w4 ⟨rfl, HH⟩)
      clear CR
      have CC := Lib.hid (clearU (l := l' ++ [a1]) (by rw [List.map_append]; exact HH.out))
      clear HH
      go_wp2_with fail
      (go_at_call 15; (with_reducible refine CC.out.mono ?_); rintro e w5 ⟨rfl, HH⟩)
      clear CC
      go_wp2_with fail
      (go_at_call 13; (with_reducible refine (popU_no HH.out).mono ?_); rintro e w' ⟨rfl, rfl⟩)
      go_wp2_with fail
      (go_at_call 14; (with_reducible refine (lenU HH.out 0 rfl).mono ?_); rintro e w' ⟨rfl, rfl⟩)
      have CR := Lib.hid (roomU HH.out (j : Int) (by simp))
      clear HH
      go_wp2_with fail
      (go_at_call 11; (with_reducible refine CR.out.mono ?_); rintro e w6 ⟨rfl, HH⟩)
      clear CR
      go_wp2_with fail
      go_roundw
      case rel => exact ⟨k + 1, by go_num, by omega, HH⟩
      case measure => (simp [intOf] <;> omega)

/-! ### The row's step -/
set_option maxRecDepth 100000 in
theorem lifted (os : Os) (started : os.Started) (H : Type) (enc : TypeId × Value → H) :
    ReturnsInHanded {} Try.checked os 3 .any (Rows.ringFullSpec.pre6 enc Try.prog Try.f3 Rows.ringFullRow.domain false) (Rows.ringFullSpec.post enc Try.prog Try.f3 false true false false) := by
  refine returnsInHanded_of_change (C := Try.checked) own started (by kernel_rfl) Try.func3
    (ChangeSpec.witness6 (enc := enc) (C := Try.checked) false ⟨#[], #[.int .u16 0, .int .u32 0], []⟩ 8 (by kernel_rfl) (by kernel_rfl) (by kernel_rfl) (by kernel_rfl)) ?_
  intro W base args ds gs before hval0 hW hcnd _
  have hval : ∀ (j : Nat) t v, Try.f3.params[j]? = some t → args[j]? = some v → Value.okWide Try.prog W .any base t v := hval0
  have hW' := hW
  obtain ⟨p, q, hA0, hV, rfl, hfz, hnd⟩ := hW
  have hA : DataW.TrodAll enc Try.prog W 0 (fun _ => true) true Try.f3.params.toList args.toList ds p := hA0
  rw [Try.params3] at hA hval
  obtain ⟨v0, vs0, d0, ds0, p0, q0, hargs, rfl, rfl, h0, rr0⟩ := trodAll_cons hA
  obtain ⟨v1, vs1, d1, ds1, p1, q1, rfl, rfl, rfl, h1, rr1⟩ := trodAll_cons rr0
  obtain ⟨rfl, rfl, rfl⟩ := trodAll_nil rr1
  obtain rfl : args = #[v0, v1] := by cases args; simp_all
  obtain ⟨rfl, rfl⟩ := trodVars_none hV
  obtain ⟨a0, rfl, rfl, rfl, w0⟩ := open_int Try.underlying22 (hval 0 22 v0 rfl rfl) h0
  obtain ⟨a1, rfl, rfl, rfl, w1⟩ := open_int Try.underlying23 (hval 1 23 v1 rfl rfl) h1
  clear hA0 hval0
  simp only [List.append_nil] at hW'
  refine (walk a0 a1 W w0 w1).mono fun e W' ⟨he, bel⟩ => ?_
  subst he
  exact ⟨_, rfl, _, _, _, [], [], [], hW', trodAll_mk1 (shut_bool Try.underlying4 _), (trodAll_cons_mk (shut_int Try.underlying22 w0) (trodAll_cons_mk (shut_int Try.underlying23 w1) trodAll_mk0)), rfl, bel.frame _, fun h => by cases h⟩

theorem over : Rows.ringFullRow.holds Try.pinned (OpenSpec.ofChange Rows.ringFullSpec) :=
  OpenClaim.holds_of_wide 3 Try.f3 rfl rfl rfl rfl rfl rfl rfl ⟨rfl, rfl, rfl, rfl, rfl⟩ rfl rfl rfl rfl rfl (by kernel_rfl) Try.func3 (by kernel_rfl)
    (of_decide_eq_true (by kernel_rfl)) (by unfold Func.isWrapper; first | (rw [if_pos (by decide +kernel)]; kernel_rfl) | (rw [if_neg (by decide +kernel)]; exact ⟨rfl, rfl⟩))
    (fun os started H enc _ => lifted os started H enc)

/-- The statement. -/
theorem proved : Rows.RingFullSaid := over
#print axioms proved
end Go.Proofs.Ytmdbpnpbohmofaa.ringFull

/- Proved: 'Rows.RtoLaterSaid': for every input fairleadlaw12.RtoLater returns true, and each argument reads afterwards as before. Conditions: none beyond the given row's own. (The frame round the walk was written by the kit's proof-skeleton.mjs.) -/
import Derived.Test.YtakbnmongagmfaaRows
import Derived.WalkKit
import Derived.ProofKit
import Derived.OpenShut
import Derived.ShutString
import Derived.ChangeOld
import Derived.Below
import Derived.Test.YtakbnmongagmfaaShell
import Derived.Test.YtakbnmongagmfaaWorks
namespace Go.Proofs.Ytakbnmongagmfaa.rtoLater
open Go.ChangeShapes Go.WideShapes Go.ChangeAt Go.RowKit
open Go.ChangeMaps (open_string shut_string)
set_option linter.unusedVariables false
open M
attribute [local go_sem] max_i64 min_i64

theorem own : ownKnob Try.prog.godebug = none := by kernel_rfl
theorem laidOut : laidOutB Try.prog = true := by kernel_rfl

/-- WHAT THE WALK IS TOLD OF A SLICE OF INTEGERS THAT CAME IN: it is nil; or it leads to a row of 'cap' cells, the numbers 'zs' (the first 'len' are its elements, the rest its spare room), each fitting its kind. -/
def IsRow (k : IntKind) (w : World) (a : Option Addr) (len cap : Nat) (zs : List Int) : Prop :=
  (a = none ∧ len = 0 ∧ cap = 0 ∧ zs = []) ∨
  ∃ x, a = some x ∧ len ≤ cap ∧ cap ≤ maxLen ∧ zs.length = cap ∧ (∀ i, i < zs.length → w.cell? (x.add i) = some (.int k (zs.getD i 0))) ∧ ∀ n ∈ zs, (Lit.int k n).wf = true

/-! ### STEP 1: THE WALK: the Go text returns true, AND WRITES NOTHING THAT WAS THERE: 'Below w.heap.size w w'' (Derived/Below.lean: '.refl', '.alloc', '.drew', '.setCell' at a new block, '.trans'). Open each 'IsRow' by 'rcases' AHEAD of 'go_enter'; part every test ahead of the walk. -/
set_option maxHeartbeats 1000000 in
set_option maxRecDepth 100000 in
theorem walk (a0 : Int) (a1 : Int) (a2 : Int) (a3 : Option Addr) (len3 cap3 : Nat) (z3 : List Int) (w : World) (w0 : (Lit.int .i64 a0).wf = true) (w1 : (Lit.int .i64 a1).wf = true) (w2 : (Lit.int .i64 a2).wf = true) (w3 : IsRow .i64 w a3 len3 cap3 z3) :
    Calls Try.prog 6 #[.int .i64 a0, .int .i64 a1, .int .i64 a2, .slice a3 len3 cap3] w fun e w' => e = .returned (.bool true) ∧ Below w.heap.size w w' := by
  obtain ⟨L, rfl, hr, hcap, hwf, _⟩ := row_of w3
  have hL : ∀ n ∈ L, -9223372036854775808 ≤ n ∧ n ≤ 9223372036854775807 := fun n hn => wf_i64 (hwf n hn)
  have HR := Lib.hid hr
  have HL := Lib.hid hL
  clear w0 w1 w2 w3 hwf hcap hr hL
  by_cases hg : Fits3 a0 a1 a2
  case neg =>
    go_enter Try.func6, Try.ntmps6
    go_wp2_with (first
      | (go_at_call 10; (with_reducible refine (new_bad _ _ _ _ hg).mono ?_); rintro e w' ⟨rfl, rfl⟩)
      | (go_at_call 9; (with_reducible refine (works_any _).mono ?_); rintro e w' ⟨rfl, hB⟩))
    go_ret
    exact ⟨rfl, hB⟩
  have HG := Lib.hid hg
  have hlm : a1 ≤ a2 := by obtain ⟨_, _, _, _⟩ := hg; omega
  clear hg
  go_enter Try.func6, Try.ntmps6
  go_wp2_with fail
  (go_at_call 10; (with_reducible refine (new_good _ _ _ _ HG.out).mono ?_); rintro e w1 ⟨rfl, h1⟩)
  go_wp2_with fail
  (go_at_call 10; (with_reducible refine (new_good _ _ _ _ HG.out).mono ?_); rintro e w2 ⟨rfl, h2⟩)
  obtain ⟨b, hb⟩ : ∃ b, w1.heap.size = b := ⟨_, rfl⟩
  have hb1 : b = w.heap.size + 1 := by rw [← hb, h1.out]; simp
  have HH : Hid (Below w.heap.size w w2 ∧ ∃ r z : R, (r.Ok ∧ r.l = a1 ∧ r.m = a2) ∧ (z.Ok ∧ Zero z ∧ z.l = a1 ∧ z.m = a2) ∧ Held 45 w2 w.heap.size r ∧ Held 45 w2 b z) := by
    have hB1 : Below w.heap.size w w1 := by rw [h1.out]; exact (Below.refl _ _).alloc (Nat.le_refl _) _
    have hB2 : Below w1.heap.size w1 w2 := by rw [h2.out]; exact (Below.refl _ _).alloc (Nat.le_refl _) _
    have hh1 : Held 45 w1 w.heap.size (made a0 a1 a2) := by rw [h1.out]; exact Held.new _ _ _
    refine ⟨hB1.trans (hB2.mono hB1.size), made a0 a1 a2, made a0 a1 a2, ⟨HG.out.ok, rfl, rfl⟩, ⟨HG.out.ok, ⟨rfl, rfl⟩, rfl, rfl⟩, hh1.at_ (hB2.block _ hh1.lt), ?_⟩
    rw [h2.out, ← hb]; exact Held.new _ _ _
  clear h1 h2
  have HB := Lib.hid hb1
  rw [hb]
  clear hb1
  by_cases hbig : 500 < L.length
  · go_wp2_with (go_at_call 9; (with_reducible refine (works_any _).mono ?_); rintro e w' ⟨rfl, hB⟩)
    go_ret
    exact ⟨rfl, HH.out.1.trans (hB.mono HH.out.1.size)⟩
  go_wp2_with fail
  obtain ⟨wo, hwo⟩ : ∃ wo : World, wo = w2 := ⟨_, rfl⟩
  subst hwo
  obtain ⟨u, hu⟩ : ∃ u, mn (mx 1 a1) a2 = u := ⟨_, rfl⟩
  have HU := Lib.hid hu
  go_loopw [13] (fun i wr => ∃ k : Nat, i = .int .i64 k ∧ k ≤ L.length ∧ Hid (Below w.heap.size w wr ∧ ∃ r z : R, (r.Ok ∧ r.l = a1 ∧ r.m = a2) ∧ (z.Ok ∧ Zero z ∧ z.l = a1 ∧ z.m = a2) ∧ Held 45 wr w.heap.size r ∧ Held 45 wr b z)) (fun i _ => L.length - (intOf i).toNat)
  case atStart => exact ⟨0, rfl, by omega, HH⟩
  case round =>
  clear HH
  obtain ⟨k, rfl, hk, HH⟩ := hrel
  by_cases hlt : k < L.length
  · obtain ⟨bb, off, rfl, hc⟩ := (HR.out.kept HH.out.1).at_ hlt
    obtain ⟨c, hcd⟩ : ∃ c, L.getD k 0 = c := ⟨_, rfl⟩
    have hc64 : -9223372036854775808 ≤ c ∧ c ≤ 9223372036854775807 := by
      rw [← hcd, List.getD_eq_getElem?_getD, List.getElem?_eq_getElem hlt]; exact HL.out _ (List.getElem_mem hlt)
    rw [hcd] at hc
    clear hcd
    have hlt' : (k : Int) < L.length := by omega
    by_cases hneg : c < 0
    · go_wp2
      go_roundw
      case rel => exact ⟨k + 1, by go_num, by omega, HH⟩
      case measure => (simp [intOf] <;> omega)
    · obtain ⟨hbl, r, z, ⟨hok, hrl, hrm⟩, ⟨hzok, hz, hzl, hzm⟩, hhr, hhz⟩ := HH.out
      have hc0 : 0 ≤ c := by omega
      have C := Lib.hid (sample_any _ r c wr hhr hok hc0)
      have hne : b ≠ w.heap.size := by have := HB.out; omega
      have HS : Hid (∀ w2, (Held 45 w2 w.heap.size (r.samp c) ∧ wr.grownBy w2 (some w.heap.size)) →
          Calls Try.prog 14 #[.pointer (some ⟨b, 0, none⟩), .int .i64 0] w2 (fun e w3 => e = .returned (.int .i64 0) ∧ Hid (Held 45 w3 b (z.samp 0) ∧ w2.grownBy w3 (some b)))) := by
        rintro w2 ⟨h1, h2⟩
        exact sample_any b z 0 w2 (hhz.other h2 hne) hzok (Int.le_refl _)
      obtain ⟨x, hx⟩ : ∃ x, (r.samp c).x = x := ⟨_, rfl⟩
      have hux : u ≤ x := by rw [← hx, ← hu, ← hrl, ← hrm]; exact samp_later hok hc0
      have HN : Hid (∀ w2 w3, (Held 45 w2 w.heap.size (r.samp c) ∧ wr.grownBy w2 (some w.heap.size)) → (Held 45 w3 b (z.samp 0) ∧ w2.grownBy w3 (some b)) →
          Calls Try.prog 18 #[.pointer (some ⟨w.heap.size, 0, none⟩)] w3 (fun e w' => e = .returned (.int .i64 x) ∧ w3 = w') ∧ Calls Try.prog 18 #[.pointer (some ⟨b, 0, none⟩)] w3 (fun e w' => e = .returned (.int .i64 u) ∧ w3 = w') ∧
          Hid (Below w.heap.size w w3 ∧ ∃ r z : R, (r.Ok ∧ r.l = a1 ∧ r.m = a2) ∧ (z.Ok ∧ Zero z ∧ z.l = a1 ∧ z.m = a2) ∧ Held 45 w3 w.heap.size r ∧ Held 45 w3 b z)) := by
        rintro w2 w3 ⟨h1, h2⟩ ⟨h3, h4⟩
        have hr3 := h1.other h4 (fun e => hne e.symm)
        refine ⟨?_, ?_, (hbl.grown h2 hbl.size (fun k hk => by cases hk; exact Nat.le_refl _)).grown h4 (Nat.le_trans hbl.size h2.size) (fun k hk => by cases hk; have := HB.out; omega), r.samp c, z.samp 0, ⟨hok.samp hc0, hrl, hrm⟩, ⟨hzok.samp (Int.le_refl _), hz.samp.1, hzl, hzm⟩, hr3, h3⟩
        · rw [← hx]; exact value_any _ _ w3 hr3
        · have h := value_any _ _ w3 h3
          rw [hz.samp.2, hzl, hzm] at h
          rw [← hu]; exact h
      clear hbl hok hrl hrm hzok hz hzl hzm hhr hhz HH hx hne
      go_wp2_with fail
      (go_at_call 14; (with_reducible refine C.out.mono ?_); rintro e w2 ⟨rfl, h1⟩)
      have C2 := Lib.hid (HS.out w2 h1.out)
      go_wp2_with fail
      (go_at_call 14; (with_reducible refine C2.out.mono ?_); rintro e w3 ⟨rfl, h2⟩)
      obtain ⟨c3, c4, HT⟩ := HN.out w2 w3 h1.out h2.out
      have C3 := Lib.hid c3
      have C4 := Lib.hid c4
      clear c3 c4 h1 h2 HS HN C C2
      go_wp2_with (first
        | (go_at_call 18; (with_reducible refine C3.out.mono ?_); rintro e w' ⟨rfl, rfl⟩)
        | (go_at_call 18; (with_reducible refine C4.out.mono ?_); rintro e w' ⟨rfl, rfl⟩))
      go_roundw
      case rel => exact ⟨k + 1, by go_num, by omega, HT⟩
      case measure => (simp [intOf] <;> omega)
  go_wp2_with (go_at_call 9; (with_reducible refine (works_any _).mono ?_); rintro e w' ⟨rfl, hB⟩)
  go_ret
  exact ⟨rfl, HH.out.1.trans (hB.mono HH.out.1.size)⟩

/-! ### THE ROW's STEP: WRITTEN OUT: LEAVE IT -/
set_option maxRecDepth 100000 in
theorem lifted (os : Os) (started : os.Started) (H : Type) (enc : TypeId × Value → H) :
    ReturnsInHanded {} Try.checked os 6 .any (Rows.rtoLaterSpec.pre6 enc Try.prog Try.f6 Rows.rtoLaterRow.domain false) (Rows.rtoLaterSpec.post enc Try.prog Try.f6 false true false false) := by
  refine returnsInHanded_of_change (C := Try.checked) own started (by kernel_rfl) Try.func6
    (ChangeSpec.witness6 (enc := enc) (C := Try.checked) false ⟨#[], #[.int .i64 0, .int .i64 0, .int .i64 0, .slice none 0 0], []⟩ 8 (by kernel_rfl) (by kernel_rfl) (by kernel_rfl) (by kernel_rfl)) ?_
  intro W base args ds gs before hval0 hW hcnd _
  have hval : ∀ (j : Nat) t v, Try.f6.params[j]? = some t → args[j]? = some v → Value.okWide Try.prog W .any base t v := hval0
  have hW' := hW
  obtain ⟨p, q, hA0, hV, rfl, hfz, hnd⟩ := hW
  have hA : DataW.TrodAll enc Try.prog W 0 (fun _ => true) true Try.f6.params.toList args.toList ds p := hA0
  rw [Try.params6] at hA hval
  obtain ⟨v0, vs0, d0, ds0, p0, q0, hargs, rfl, rfl, h0, r0⟩ := trodAll_cons hA
  obtain ⟨v1, vs1, d1, ds1, p1, q1, rfl, rfl, rfl, h1, r1⟩ := trodAll_cons r0
  obtain ⟨v2, vs2, d2, ds2, p2, q2, rfl, rfl, rfl, h2, r2⟩ := trodAll_cons r1
  obtain ⟨v3, vs3, d3, ds3, p3, q3, rfl, rfl, rfl, h3, r3⟩ := trodAll_cons r2
  obtain ⟨rfl, rfl, rfl⟩ := trodAll_nil r3
  obtain rfl : args = #[v0, v1, v2, v3] := by cases args; simp_all
  obtain ⟨rfl, rfl⟩ := trodVars_none hV
  obtain ⟨a0, rfl, rfl, rfl, w0⟩ := open_int Try.underlying2 (hval 0 2 v0 rfl rfl) h0
  obtain ⟨a1, rfl, rfl, rfl, w1⟩ := open_int Try.underlying2 (hval 1 2 v1 rfl rfl) h1
  obtain ⟨a2, rfl, rfl, rfl, w2⟩ := open_int Try.underlying2 (hval 2 2 v2 rfl rfl) h2
  obtain ⟨a3, len3, cap3, rfl⟩ := okWide_slice Try.underlying39 (hval 3 39 v3 rfl rfl)
  have k3 := h3
  have lt3 : ∀ x ∈ p3, x.block < W.heap.size := by obtain ⟨m, hm⟩ := k3; exact DataW.trod_lt m _ _ _ hm
  obtain ⟨z3, w3⟩ : ∃ zs, IsRow .i64 W a3 len3 cap3 zs := by
    obtain ⟨fuel, hf⟩ := h3
    rcases open_ints Try.underlying39 Try.underlying2 (by kernel_rfl) hf with ⟨hcs, _⟩ | ⟨x, l, c, zs, hcs, _, hl, hm, hz, _, hcell, hwz⟩
    · simp [Value.cells] at hcs
      obtain ⟨rfl, rfl, rfl⟩ := hcs
      exact ⟨[], .inl ⟨rfl, rfl, rfl, rfl⟩⟩
    · simp [Value.cells] at hcs
      obtain ⟨rfl, rfl, rfl⟩ := hcs
      exact ⟨zs, .inr ⟨_, rfl, hl, hm, by simpa using hz, hcell, hwz⟩⟩
  clear hA0 hval0
  refine (walk a0 a1 a2 a3 len3 cap3 z3 W w0 w1 w2 w3).mono fun e W' ⟨he, bel⟩ => ?_
  subst he
  exact ⟨_, rfl, _, _, _, [], _, [], hW', trodAll_mk1 (shut_bool Try.underlying4 _), (trodAll_cons_mk (shut_int Try.underlying2 w0) (trodAll_cons_mk (shut_int Try.underlying2 w1) (trodAll_cons_mk (shut_int Try.underlying2 w2) (trodAll_cons_mk (Below.trod laidOut (by kernel_rfl) (of_decide_eq_true (by kernel_rfl)) k3 bel lt3) trodAll_mk0)))), rfl, bel.frame _, fun h => by cases h⟩

theorem over : Rows.rtoLaterRow.holds Try.pinned (OpenSpec.ofChange Rows.rtoLaterSpec) :=
  OpenClaim.holds_of_wide 6 Try.f6 rfl rfl rfl rfl rfl rfl rfl ⟨rfl, rfl, rfl, rfl, rfl⟩ rfl rfl rfl rfl rfl (by kernel_rfl) Try.func6 (by kernel_rfl)
    (of_decide_eq_true (by kernel_rfl)) (by unfold Func.isWrapper; first | (rw [if_pos (by decide +kernel)]; kernel_rfl) | (rw [if_neg (by decide +kernel)]; exact ⟨rfl, rfl⟩))
    (fun os started H enc _ => lifted os started H enc)

/-- ████ THE STATEMENT ████ -/
theorem proved : Rows.RtoLaterSaid := over
#print axioms proved
end Go.Proofs.Ytakbnmongagmfaa.rtoLater

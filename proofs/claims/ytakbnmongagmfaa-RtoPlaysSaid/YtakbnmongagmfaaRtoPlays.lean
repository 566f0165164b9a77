/- Proved: 'Rows.RtoPlaysSaid': for every input fairleadlaw12.RtoPlays returns true, and each argument reads afterwards as before. Conditions: none beyond the given row's own. (The frame round the walk was written by the kit's proof-skeleton.mjs.) -/
import Derived.Test.YtakbnmongagmfaaRows
import Derived.WalkKit
import Derived.ProofKit
import Derived.OpenShut
import Derived.ShutString
import Derived.ChangeOld
import Derived.Below
import Derived.Test.YtakbnmongagmfaaOps
import Derived.Test.YtakbnmongagmfaaWorks
import Derived.Test.YtakbnmongagmfaaWalkR
import Derived.Deep.RegionWith
namespace Go.Proofs.Ytakbnmongagmfaa.rtoPlays
open Go.ChangeShapes Go.WideShapes Go.ChangeAt Go.RowKit
open Go.ChangeMaps (open_string shut_string)
open M
set_option linter.unusedVariables false
attribute [local go_sem] max_i64 min_i64

theorem own : ownKnob Try.prog.godebug = none := by kernel_rfl
theorem laidOut : laidOutB Try.prog = true := by kernel_rfl

/-- Whatever is sampled: what is answered, and what becomes of the estimator. -/
def codeOf (t : Int) : Int := if t < 0 then 1 else 0
def _root_.Go.Proofs.Ytakbnmongagmfaa.M.R.sampAll (r : R) (t : Int) : R := if t < 0 then r else r.samp t
theorem _root_.Go.Proofs.Ytakbnmongagmfaa.M.R.Ok.sampAll {r : R} (h : r.Ok) (t : Int) : (r.sampAll t).Ok := by
  unfold M.R.sampAll
  split
  · exact h
  · exact h.samp (by omega)
theorem sample_all (b : Nat) (r : R) (t : Int) (w : World) (h : Held 45 w b r) (ho : r.Ok) :
    Calls Try.prog 14 #[.pointer (some ⟨b, 0, none⟩), .int .i64 t] w fun e w' => e = .returned (.int .i64 (codeOf t)) ∧ Hid (Held 45 w' b (r.sampAll t) ∧ w.grownBy w' (some b)) := by
  unfold codeOf M.R.sampAll
  by_cases ht : t < 0
  · rw [if_pos ht, if_pos ht]
    exact (sample_neg b t w ht).mono fun e w' ⟨he, hw⟩ => ⟨he, by subst hw; exact ⟨h, World.grownBy.refl _ _⟩⟩
  · rw [if_neg ht, if_neg ht]
    exact sample_any b r t w h ho (by omega)
theorem refSample_all (b : Nat) (r : R) (t : Int) (w : World) (h : Held 47 w b r) (ho : r.Ok) :
    Calls Try.prog 15 #[.pointer (some ⟨b, 0, none⟩), .int .i64 t] w fun e w' => e = .returned (.int .i64 (codeOf t)) ∧ Hid (Held 47 w' b (r.sampAll t) ∧ w.grownBy w' (some b)) := by
  unfold codeOf M.R.sampAll
  by_cases ht : t < 0
  · rw [if_pos ht, if_pos ht]
    exact (refSample_neg b t w ht).mono fun e w' ⟨he, hw⟩ => ⟨he, by subst hw; exact ⟨h, World.grownBy.refl _ _⟩⟩
  · rw [if_neg ht, if_neg ht]
    exact refSample_any b r t w h ho (by omega)

/-! ### STEP 1: THE WALK: the Go text returns true, AND WRITES NOTHING THAT WAS THERE: 'Below w.heap.size w w'' (Derived/Below.lean: '.refl', '.alloc', '.drew', '.setCell' at a new block, '.trans'). Open each 'IsRow' by 'rcases' AHEAD of 'go_enter'; part every test ahead of the walk. -/
set_option maxHeartbeats 4000000 in
set_option maxRecDepth 100000 in
theorem walk (a0 : Int) (a1 : Int) (a2 : Int) (a3 : Option Addr) (cap3 : Nat) (L : List (Bool × Int)) (w : World) (w0 : (Lit.int .i64 a0).wf = true) (w1 : (Lit.int .i64 a1).wf = true) (w2 : (Lit.int .i64 a2).wf = true) (hr : OpRow w a3 L) (hL : OpsFit L) :
    Calls Try.prog 3 #[.int .i64 a0, .int .i64 a1, .int .i64 a2, .slice a3 L.length cap3] w fun e w' => e = .returned (.bool true) ∧ Below w.heap.size w w' := by
  clear w0 w1 w2
  have HR := Lib.hid hr
  have HL := Lib.hid hL
  clear hr hL
  by_cases hbig : 500 < L.length
  · go_enter Try.func3, Try.ntmps3
    go_wp2_with (go_at_call 9; (with_reducible refine (works_any _).mono ?_); rintro e w' ⟨rfl, hB⟩)
    go_ret
    exact ⟨rfl, hB⟩
  by_cases hg : Fits3 a0 a1 a2
  case neg =>
    go_enter Try.func3, Try.ntmps3
    go_wp2_with (first
      | (go_at_call 10; (with_reducible refine (new_bad _ _ _ _ hg).mono ?_); rintro e w' ⟨rfl, rfl⟩)
      | (go_at_call 11; (with_reducible refine (refNew_bad _ _ _ _ hg).mono ?_); rintro e w' ⟨rfl, rfl⟩))
    clear hg
    go_loopw [13] (fun i wr => ∃ k : Nat, i = .int .i64 k ∧ k ≤ L.length ∧ Hid (∃ n, wr = w.drewN n)) (fun i _ => L.length - (intOf i).toNat)
    case atStart => exact ⟨0, rfl, by omega, 0, rfl⟩
    case round =>
    obtain ⟨k, rfl, hk, HD⟩ := hrel
    by_cases hlt : k < L.length
    · obtain ⟨bb, off, rfl, hc1, hc2⟩ := HR.out.at_ hlt
      have hcell : ∀ p, wr.cell? p = w.cell? p := by obtain ⟨n, rfl⟩ := HD.out; intro p; rfl
      rw [← hcell] at hc1 hc2
      clear hcell
      obtain ⟨bk, hbk⟩ : ∃ bk, (L.getD k default).1 = bk := ⟨_, rfl⟩
      obtain ⟨c, hcc⟩ : ∃ c, (L.getD k default).2 = c := ⟨_, rfl⟩
      rw [hbk] at hc1
      rw [hcc] at hc2
      clear hbk hcc
      have hlt' : (k : Int) < L.length := by omega
      cases bk with
      | true =>
        go_wp2_with (first
          | (go_at_call 12; (with_reducible refine (back_nil _).mono ?_); rintro e w' ⟨rfl, rfl⟩)
          | (go_at_call 13; (with_reducible refine (refBack_nil _).mono ?_); rintro e w' ⟨rfl, rfl⟩)
          | (go_at_call 16; (with_reducible refine (smooth_nil _).mono ?_); rintro e w' ⟨rfl, rfl⟩)
          | (go_at_call 17; (with_reducible refine (refSmooth_nil _).mono ?_); rintro e w' ⟨rfl, rfl⟩)
          | (go_at_call 18; (with_reducible refine (value_nil _).mono ?_); rintro e w' ⟨rfl, rfl⟩)
          | (go_at_call 19; (with_reducible refine (refValue_nil _).mono ?_); rintro e w' ⟨rfl, rfl⟩))
        go_roundw
        case rel => exact ⟨k + 1, by go_num, by omega, HD⟩
        case measure => (simp [intOf] <;> omega)
      | false =>
        go_wp2_with fail
        go_quiet (first
          | (go_at_call 14; exact Calls.quiet_of_same ((sample_nil _ _).mono fun _ _ ⟨h, h'⟩ => ⟨h, h'.symm⟩))
          | (go_at_call 15; exact Calls.quiet_of_same ((refSample_nil _ _).mono fun _ _ ⟨h, h'⟩ => ⟨h, h'.symm⟩)))
        go_wp2_with (first
          | (go_at_call 16; (with_reducible refine (smooth_nil _).mono ?_); rintro e w' ⟨rfl, rfl⟩)
          | (go_at_call 17; (with_reducible refine (refSmooth_nil _).mono ?_); rintro e w' ⟨rfl, rfl⟩)
          | (go_at_call 18; (with_reducible refine (value_nil _).mono ?_); rintro e w' ⟨rfl, rfl⟩)
          | (go_at_call 19; (with_reducible refine (refValue_nil _).mono ?_); rintro e w' ⟨rfl, rfl⟩))
        go_roundw
        case rel => exact ⟨k + 1, by go_num, by omega, HD.out.elim fun n e => ⟨n + nq, by rw [e, World.drewN_drewN]⟩⟩
        case measure => (simp [intOf] <;> omega)
    obtain ⟨n, rfl⟩ := HD.out
    go_wp2_with (go_at_call 9; (with_reducible refine (works_any _).mono ?_); rintro e w' ⟨rfl, hB⟩)
    go_ret
    exact ⟨rfl, ⟨hB.os, hB.tape, hB.output, hB.size, hB.block⟩⟩
  have HG := Lib.hid hg
  clear hg
  go_enter Try.func3, Try.ntmps3
  go_wp2_with fail
  (go_at_call 10; (with_reducible refine (new_good _ _ _ _ HG.out).mono ?_); rintro e w1 ⟨rfl, h1⟩)
  go_wp2_with fail
  (go_at_call 11; (with_reducible refine (refNew_good _ _ _ _ HG.out).mono ?_); rintro e w2 ⟨rfl, h2⟩)
  obtain ⟨b, hb⟩ : ∃ b, w1.heap.size = b := ⟨_, rfl⟩
  have hb1 : b = w.heap.size + 1 := by rw [← hb, h1.out]; simp
  have HH : Hid (Below w.heap.size w w2 ∧ ∃ r : R, r.Ok ∧ Held 45 w2 w.heap.size r ∧ Held 47 w2 b r) := by
    have hB1 : Below w.heap.size w w1 := by rw [h1.out]; exact (Below.refl _ _).alloc (Nat.le_refl _) _
    have hB2 : Below w1.heap.size w1 w2 := by rw [h2.out]; exact (Below.refl _ _).alloc (Nat.le_refl _) _
    have hh1 : Held 45 w1 w.heap.size (made a0 a1 a2) := by rw [h1.out]; exact Held.new _ _ _
    refine ⟨hB1.trans (hB2.mono hB1.size), made a0 a1 a2, HG.out.ok, hh1.at_ (hB2.block _ hh1.lt), ?_⟩
    rw [h2.out, ← hb]; exact Held.new _ _ _
  clear h1 h2
  have HB := Lib.hid hb1
  rw [hb]
  clear hb1
  go_wp2_with fail
  obtain ⟨wo, hwo⟩ : ∃ wo : World, wo = w2 := ⟨_, rfl⟩
  subst hwo
  go_loopw [13] (fun i wr => ∃ k : Nat, i = .int .i64 k ∧ k ≤ L.length ∧ Hid (Below w.heap.size w wr ∧ ∃ r : R, r.Ok ∧ Held 45 wr w.heap.size r ∧ Held 47 wr b r)) (fun i _ => L.length - (intOf i).toNat)
  case atStart => exact ⟨0, rfl, by omega, HH⟩
  case round =>
  clear HH
  obtain ⟨k, rfl, hk, HH⟩ := hrel
  by_cases hlt : k < L.length
  · obtain ⟨bb, off, rfl, hc1, hc2⟩ := HR.out.at_ hlt
    have hbb : bb < w.heap.size := World.block_lt_of_cell? w _ hc1
    have HC2 := Lib.hid hc2
    rw [← HH.out.1.cell (p := ⟨bb, _, none⟩) hbb] at hc1 hc2
    obtain ⟨bk, hbk⟩ : ∃ bk, (L.getD k default).1 = bk := ⟨_, rfl⟩
    obtain ⟨c, hcc⟩ : ∃ c, (L.getD k default).2 = c := ⟨_, rfl⟩
    rw [hbk] at hc1
    rw [hcc] at hc2 HC2
    clear hbk hcc
    have hlt' : (k : Int) < L.length := by omega
    obtain ⟨hbl, r, hok, hhr, hhz⟩ := HH.out
    have hne : b ≠ w.heap.size := by have := HB.out; omega
    -- what stands behind the two: they are alike
    have HE : Hid (∀ (w3 : World) (r' : R), r'.Ok → Held 45 w3 w.heap.size r' → Held 47 w3 b r' → ∃ (x s : Int) (an : Bool),
        Hid (Calls Try.prog 18 #[.pointer (some ⟨w.heap.size, 0, none⟩)] w3 fun e w' => e = .returned (.int .i64 x) ∧ w3 = w') ∧ Hid (Calls Try.prog 19 #[.pointer (some ⟨b, 0, none⟩)] w3 fun e w' => e = .returned (.int .i64 x) ∧ w3 = w') ∧
        Hid (Calls Try.prog 16 #[.pointer (some ⟨w.heap.size, 0, none⟩)] w3 fun e w' => e = .returned (.tuple #[.int .i64 s, .bool an]) ∧ w3 = w') ∧ Hid (Calls Try.prog 17 #[.pointer (some ⟨b, 0, none⟩)] w3 fun e w' => e = .returned (.tuple #[.int .i64 s, .bool an]) ∧ w3 = w')) := by
      intro w3 r' ho h1 h2
      exact ⟨r'.x, smoothed r', r'.any, value_any _ _ w3 h1, refValue_any _ _ w3 h2, smooth_any _ _ w3 h1 ho, refSmooth_any _ _ w3 h2 ho⟩
    cases bk with
    | true =>
      have C := Lib.hid (back_any _ r wr hhr hok)
      have HS : Hid (∀ w2, (Held 45 w2 w.heap.size r.back ∧ wr.grownBy w2 (some w.heap.size)) →
          Calls Try.prog 13 #[.pointer (some ⟨b, 0, none⟩)] w2 (fun e w3 => e = .returned (.tuple #[]) ∧ Hid (Held 47 w3 b r.back ∧ w2.grownBy w3 (some b)))) := by
        rintro w2 ⟨h1, h2⟩
        exact refBack_any b r w2 (hhz.other h2 hne) hok
      have HN : Hid (∀ w2 w3, (Held 45 w2 w.heap.size r.back ∧ wr.grownBy w2 (some w.heap.size)) → (Held 47 w3 b r.back ∧ w2.grownBy w3 (some b)) →
          Below w.heap.size w w3 ∧ r.back.Ok ∧ Held 45 w3 w.heap.size r.back ∧ Held 47 w3 b r.back) := by
        rintro w2 w3 ⟨h1, h2⟩ ⟨h3, h4⟩
        exact ⟨(hbl.grown h2 hbl.size (fun k hk => by cases hk; exact Nat.le_refl _)).grown h4 (Nat.le_trans hbl.size h2.size) (fun k hk => by cases hk; have := HB.out; omega), hok.back, h1.other h4 (fun e => hne e.symm), h3⟩
      clear hbl hok hhr hhz HH hne
      go_wp2_with fail
      (go_at_call 12; (with_reducible refine C.out.mono ?_); rintro e w2 ⟨rfl, h1⟩)
      have C2 := Lib.hid (HS.out w2 h1.out)
      go_wp2_with fail
      (go_at_call 13; (with_reducible refine C2.out.mono ?_); rintro e w3 ⟨rfl, h2⟩)
      have HT := Lib.hid (HN.out w2 w3 h1.out h2.out)
      obtain ⟨x, s, an, C3, C4, C5, C6⟩ := HE.out w3 _ HT.out.2.1 HT.out.2.2.1 HT.out.2.2.2
      clear h1 h2 HS HN C C2 HE
      go_wp2_with (first
        | (go_at_call 18; (with_reducible refine C3.out.mono ?_); rintro e w' ⟨rfl, rfl⟩)
        | (go_at_call 19; (with_reducible refine C4.out.mono ?_); rintro e w' ⟨rfl, rfl⟩)
        | (go_at_call 16; (with_reducible refine C5.out.mono ?_); rintro e w' ⟨rfl, rfl⟩)
        | (go_at_call 17; (with_reducible refine C6.out.mono ?_); rintro e w' ⟨rfl, rfl⟩))
      go_roundw
      case rel => exact ⟨k + 1, by go_num, by omega, HT.out.1, _, HT.out.2⟩
      case measure => (simp [intOf] <;> omega)
    | false =>
      obtain ⟨q, hq⟩ : ∃ q, codeOf c = q := ⟨_, rfl⟩
      have C := Lib.hid (sample_all _ r c wr.drew hhr.drew hok)
      have HS : Hid (∀ w2, (Held 45 w2 w.heap.size (r.sampAll c) ∧ wr.drew.grownBy w2 (some w.heap.size)) →
          Calls Try.prog 15 #[.pointer (some ⟨b, 0, none⟩), .int .i64 c] w2 (fun e w3 => e = .returned (.int .i64 q) ∧ Hid (Held 47 w3 b (r.sampAll c) ∧ w2.grownBy w3 (some b)))) := by
        rintro w2 ⟨h1, h2⟩
        rw [← hq]
        exact refSample_all b r c w2 (hhz.drew.other h2 hne) hok
      have HX : Hid (∀ w2, (Held 45 w2 w.heap.size (r.sampAll c) ∧ wr.drew.grownBy w2 (some w.heap.size)) → w2.cell? ⟨bb, off + k * 2 + 1, none⟩ = some (.int .i64 c)) := by
        rintro w2 ⟨h1, h2⟩
        have hbl2 := hbl.drew.grown h2 hbl.size (fun k hk => by cases hk; exact Nat.le_refl _)
        rw [hbl2.cell (p := ⟨bb, _, none⟩) hbb]; exact HC2.out
      have HN : Hid (∀ w2 w3, (Held 45 w2 w.heap.size (r.sampAll c) ∧ wr.drew.grownBy w2 (some w.heap.size)) → (Held 47 w3 b (r.sampAll c) ∧ w2.grownBy w3 (some b)) →
          Below w.heap.size w w3 ∧ (r.sampAll c).Ok ∧ Held 45 w3 w.heap.size (r.sampAll c) ∧ Held 47 w3 b (r.sampAll c)) := by
        rintro w2 w3 ⟨h1, h2⟩ ⟨h3, h4⟩
        exact ⟨(hbl.drew.grown h2 hbl.size (fun k hk => by cases hk; exact Nat.le_refl _)).grown h4 (Nat.le_trans hbl.size h2.size) (fun k hk => by cases hk; have := HB.out; omega), hok.sampAll c, h1.other h4 (fun e => hne e.symm), h3⟩
      rw [hq] at C
      clear hbl hok hhr hhz HH hne hq
      go_wp2_with fail
      go_region_with (first
        | (go_at_call 14; (with_reducible refine C.out.mono ?_); rintro e w2 ⟨rfl, h1⟩; have hx2 := HX.out w2 h1.out)
        | (go_at_call 15; (with_reducible refine (HS.out w2 h1.out).mono ?_); rintro e w3 ⟨rfl, h2⟩))
      all_goals
        have HT := Lib.hid (HN.out w2 w3 h1.out h2.out)
        obtain ⟨x, s, an, C3, C4, C5, C6⟩ := HE.out w3 _ HT.out.2.1 HT.out.2.2.1 HT.out.2.2.2
        clear h1 h2 HS HN C HE HX hx2
        go_wp2_with (first
          | (go_at_call 18; (with_reducible refine C3.out.mono ?_); rintro e w' ⟨rfl, rfl⟩)
          | (go_at_call 19; (with_reducible refine C4.out.mono ?_); rintro e w' ⟨rfl, rfl⟩)
          | (go_at_call 16; (with_reducible refine C5.out.mono ?_); rintro e w' ⟨rfl, rfl⟩)
          | (go_at_call 17; (with_reducible refine C6.out.mono ?_); rintro e w' ⟨rfl, rfl⟩))
        go_roundw
        case rel => exact ⟨k + 1, by go_num, by omega, HT.out.1, _, HT.out.2⟩
        case measure => (simp [intOf] <;> omega)
  go_wp2_with (go_at_call 9; (with_reducible refine (works_any _).mono ?_); rintro e w' ⟨rfl, hB⟩)
  go_ret
  exact ⟨rfl, HH.out.1.trans (hB.mono HH.out.1.size)⟩

/-! ### THE ROW's STEP: WRITTEN OUT: LEAVE IT -/
set_option maxRecDepth 100000 in
theorem lifted (os : Os) (started : os.Started) (H : Type) (enc : TypeId × Value → H) :
    ReturnsInHanded {} Try.checked os 3 .any (Rows.rtoPlaysSpec.pre6 enc Try.prog Try.f3 Rows.rtoPlaysRow.domain false) (Rows.rtoPlaysSpec.post enc Try.prog Try.f3 false true false false) := by
  refine returnsInHanded_of_change (C := Try.checked) own started (by kernel_rfl) Try.func3
    (ChangeSpec.witness6 (enc := enc) (C := Try.checked) false ⟨#[], #[.int .i64 0, .int .i64 0, .int .i64 0, .slice none 0 0], []⟩ 8 (by kernel_rfl) (by kernel_rfl) (by kernel_rfl) (by kernel_rfl)) ?_
  intro W base args ds gs before hval0 hW hcnd _
  have hval : ∀ (j : Nat) t v, Try.f3.params[j]? = some t → args[j]? = some v → Value.okWide Try.prog W .any base t v := hval0
  have hW' := hW
  obtain ⟨p, q, hA0, hV, rfl, hfz, hnd⟩ := hW
  have hA : DataW.TrodAll enc Try.prog W 0 (fun _ => true) true Try.f3.params.toList args.toList ds p := hA0
  rw [Try.params3] at hA hval
  obtain ⟨v0, vs0, d0, ds0, p0, q0, hargs, rfl, rfl, h0, r0⟩ := trodAll_cons hA
  obtain ⟨v1, vs1, d1, ds1, p1, q1, rfl, rfl, rfl, h1, r1⟩ := trodAll_cons r0
  obtain ⟨v2, vs2, d2, ds2, p2, q2, rfl, rfl, rfl, h2, r2⟩ := trodAll_cons r1
  obtain ⟨v3, vs3, d3, ds3, p3, q3, rfl, rfl, rfl, h3, r3⟩ := trodAll_cons r2
  obtain ⟨rfl, rfl, rfl⟩ := trodAll_nil r3
  obtain rfl : args = #[v0, v1, v2, v3] := by cases args; simp_all
  obtain ⟨rfl, rfl⟩ := trodVars_none hV
  obtain ⟨a0, rfl, rfl, rfl, w0⟩ := open_int Try.underlying2 (hval 0 2 v0 rfl rfl) h0
  obtain ⟨a1, rfl, rfl, rfl, w1⟩ := open_int Try.underlying2 (hval 1 2 v1 rfl rfl) h1
  obtain ⟨a2, rfl, rfl, rfl, w2⟩ := open_int Try.underlying2 (hval 2 2 v2 rfl rfl) h2
  obtain ⟨a3, len3, cap3, rfl⟩ := okWide_slice Try.underlying22 (hval 3 22 v3 rfl rfl)
  have k3 := h3
  have lt3 : ∀ x ∈ p3, x.block < W.heap.size := by obtain ⟨m, hm⟩ := k3; exact DataW.trod_lt m _ _ _ hm
  obtain ⟨L, rfl, hr3, hL3⟩ : ∃ L : List (Bool × Int), L.length = len3 ∧ OpRow W a3 L ∧ OpsFit L := by
    obtain ⟨fuel, hf⟩ := h3
    exact ops_of (by simpa [Value.cells] using hf)
  clear hA0 hval0
  refine (walk a0 a1 a2 a3 cap3 L W w0 w1 w2 hr3 hL3).mono fun e W' ⟨he, bel⟩ => ?_
  subst he
  exact ⟨_, rfl, _, _, _, [], _, [], hW', trodAll_mk1 (shut_bool Try.underlying4 _), (trodAll_cons_mk (shut_int Try.underlying2 w0) (trodAll_cons_mk (shut_int Try.underlying2 w1) (trodAll_cons_mk (shut_int Try.underlying2 w2) (trodAll_cons_mk (Below.trod laidOut (by kernel_rfl) (of_decide_eq_true (by kernel_rfl)) k3 bel lt3) trodAll_mk0)))), rfl, bel.frame _, fun h => by cases h⟩

theorem over : Rows.rtoPlaysRow.holds Try.pinned (OpenSpec.ofChange Rows.rtoPlaysSpec) :=
  OpenClaim.holds_of_wide 3 Try.f3 rfl rfl rfl rfl rfl rfl rfl ⟨rfl, rfl, rfl, rfl, rfl⟩ rfl rfl rfl rfl rfl (by kernel_rfl) Try.func3 (by kernel_rfl)
    (of_decide_eq_true (by kernel_rfl)) (by unfold Func.isWrapper; first | (rw [if_pos (by decide +kernel)]; kernel_rfl) | (rw [if_neg (by decide +kernel)]; exact ⟨rfl, rfl⟩))
    (fun os started H enc _ => lifted os started H enc)

/-- ████ THE STATEMENT ████ -/
theorem proved : Rows.RtoPlaysSaid := over
#print axioms proved
end Go.Proofs.Ytakbnmongagmfaa.rtoPlays

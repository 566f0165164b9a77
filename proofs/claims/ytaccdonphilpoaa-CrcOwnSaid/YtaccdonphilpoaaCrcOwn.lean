/- Proved: 'Rows.CrcOwnSaid': for every input fairleadlaw02.CrcOwn returns true, and each argument reads afterwards as before. Conditions: none beyond the given row's own. (The frame round the walk was written by the kit's proof-skeleton.mjs.) -/
import Derived.Test.YtaccdonphilpoaaRows
import Derived.WalkKit
import Derived.ProofKit
import Derived.OpenShut
import Derived.ShutString
import Derived.ChangeOld
import Derived.Below
import Derived.Test.YtaccdonphilpoaaShell
import Derived.Test.YtaccdonphilpoaaLin
import Derived.Test.YtaccdonphilpoaaWorks
import Derived.Test.YtaccdonphilpoaaWalkG
namespace Go.Proofs.Ytaccdonphilpoaa.crcOwn
open Go.ChangeShapes Go.WideShapes Go.ChangeAt Go.RowKit
open Go.ChangeMaps (open_string shut_string)
set_option linter.unusedVariables false

theorem own : ownKnob Try.prog.godebug = none := by kernel_rfl
theorem laidOut : laidOutB Try.prog = true := by kernel_rfl

/-- WHAT THE WALK IS TOLD OF A SLICE OF INTEGERS THAT CAME IN: it is nil; or it leads to a row of 'cap' cells, the numbers 'zs' (the first 'len' are its elements, the rest its spare room), each fitting its kind. -/
def IsRow (k : IntKind) (w : World) (a : Option Addr) (len cap : Nat) (zs : List Int) : Prop :=
  (a = none ∧ len = 0 ∧ cap = 0 ∧ zs = []) ∨
  ∃ x, a = some x ∧ len ≤ cap ∧ cap ≤ maxLen ∧ zs.length = cap ∧ (∀ i, i < zs.length → w.cell? (x.add i) = some (.int k (zs.getD i 0))) ∧ ∀ n ∈ zs, (Lit.int k n).wf = true

theorem own_mono {w : World} {base base' : Nat} {e : TypeId} {n : Nat} {v : Value} {xs : List Value} (h : w.ownsRow base e 1 v n xs) (hb : base' ≤ base) : w.ownsRow base' e 1 v n xs := by
  obtain ⟨h1, h2⟩ := h
  refine ⟨h1, ?_⟩
  rcases h2 with h2 | ⟨g, cap, cur, hv, hg, r⟩
  · exact .inl h2
  · exact .inr ⟨g, cap, cur, hv, Nat.le_trans hb hg, r⟩

/-! ### STEP 1: THE WALK: the Go text returns true, AND WRITES NOTHING THAT WAS THERE: 'Below w.heap.size w w'' (Derived/Below.lean: '.refl', '.alloc', '.drew', '.setCell' at a new block, '.trans'). Open each 'IsRow' by 'rcases' AHEAD of 'go_enter'; part every test ahead of the walk. -/
theorem walk (a0 : Option Addr) (len0 cap0 : Nat) (z0 : List Int) (a1 : Int) (w : World) (w0 : IsRow .u8 w a0 len0 cap0 z0) (w1 : (Lit.int .u32 a1).wf = true) :
    Calls Try.prog 8 #[.slice a0 len0 cap0, .int .u32 a1] w fun e w' => e = .returned (.bool true) ∧ Below w.heap.size w w' := by
  obtain ⟨l, rfl, hr, hcap, hwf, _⟩ := M.row_of w0
  have hb : M.Bytes l := fun n hn => M.wf_u8 (hwf n hn)
  have hs := M.wf_u32 w1
  clear w0 w1 hwf hcap
  have HR := Lib.hid hr
  have HB := Lib.hid hb
  clear hr hb
  by_cases hbig : l.length > 8192
  · go_enter Try.func8, Try.ntmps8
    go_wp2_with (go_at_call 9; refine (works_any _).mono ?_; rintro e w' ⟨rfl, hB⟩)
    go_ret
    exact ⟨rfl, hB⟩
  · obtain ⟨i0, hi, hz0, hz1, hz2⟩ := info_parts info5
    have HINF := Lib.hid (And.intro hi (And.intro hz0 (And.intro hz1 hz2)))
    clear hi hz0 hz1 hz2
    obtain ⟨S, hS⟩ : ∃ S, M.sumOf 0 l = S := ⟨_, rfl⟩
    have hS1 : 0 ≤ S ∧ S ≤ 4294967295 := by rw [← hS]; exact M.sumOf_range _ _
    obtain ⟨X, hX⟩ : ∃ X, Go.bits .xor .u32 S a1 = X := ⟨_, rfl⟩
    have hX1 : 0 ≤ X ∧ X ≤ 4294967295 := by rw [← hX, M.bits_xor]; exact M.range _
    obtain ⟨R, hR⟩ : ∃ R, M.sumOf 0 (M.fourOf a1) = R := ⟨_, rfl⟩
    have HR1 : Hid (M.sumOf 0 (l ++ M.fourOf X) = R) := by rw [Hid, ← hX, ← hS, M.own_sum l a1 hs]; exact hR
    have HR2 : Hid (M.sumOf 0 (l ++ M.fourOf S) = 1214729159) := by rw [Hid, ← hS]; exact M.own_plain l
    have HS := Lib.hid hS
    have HRR := Lib.hid hR
    clear hS hR
    go_enter Try.func8, Try.ntmps8
    go_wp2_with fail
    (go_at_call 16; (with_reducible refine (copy_any _ l _ _ (by omega) HR.out).mono ?_); rintro e w1 ⟨v, rfl, hown, hb1⟩)
    have own_ne : v.ownBlock = none ∨ v.ownBlock ≠ none := by cases v.ownBlock <;> simp
    have HO := Lib.hid hown
    have HBL := Lib.hid hb1
    clear hown hb1
    go_wp2_with fail
    have c1 : Calls Try.prog 13 #[.slice a0 l.length cap0] w1 fun e w' => e = .returned (.int .u32 S) ∧ w1 = w' := by
      have h := sum_any a0 l cap0 w1 (by omega) (HR.out.kept HBL.out) HB.out
      rwa [HS.out] at h
    (go_at_call 13; (with_reducible refine c1.mono ?_); rintro e w' ⟨rfl, rfl⟩)
    clear c1
    go_wp2_with fail
    (go_at_call 17; (with_reducible refine (four_any X _ hX1).mono ?_); rintro e w2 ⟨rfl, h2⟩)
    obtain ⟨h2b, h2i⟩ := h2.out
    replace HO := Lib.hid (HO.out.kept (row := none) ⟨h2b.os, h2b.tape, h2b.output, h2b.size, fun k hk _ => h2b.block k hk⟩ own_ne)
    replace HBL := Lib.hid (HBL.out.trans (h2b.mono HBL.out.size))
    have HI := Lib.hid h2i
    clear h2 h2b h2i own_ne
    go_wp2_with (at_builtin; refine append_own_wanted rfl _ _ 22 rfl w.heap.size 5 i0 (.int .u8 0) 1 1 Try.underlying22 HINF.out.1 HINF.out.2.1 HINF.out.2.2.1 HINF.out.2.2.2 rfl (by decide) v l.length (l.map (Value.int .u8)) rfl HO.out ⟨_, 0, none⟩ 4 4 ((M.fourOf X).map (Value.int .u8)) rfl rfl (Row.news HI.out) (ints_oneCell _ _) (by unfold maxLen; omega) (by omega) HBL.out.size ?_; intro v' w' hown' hgrow')
    have h4 : l.length + 4 = (l ++ M.fourOf X).length := by simp [M.fourOf]
    have hmap : l.map (Value.int .u8) ++ (M.fourOf X).map (Value.int .u8) = (l ++ M.fourOf X).map (Value.int .u8) := by rw [List.map_append]
    rw [h4, hmap] at hown'
    obtain ⟨A3, cap3, rfl, hr3⟩ := M.own_row hown'
    replace HBL := Lib.hid (HBL.out.grown hgrow' HBL.out.size (fun k hk => (HO.out.lt k hk).1))
    have c3 : Calls Try.prog 13 #[.slice A3 (l ++ M.fourOf X).length cap3] w' fun e w'' => e = .returned (.int .u32 R) ∧ w' = w'' := by
      have h := sum_any A3 (l ++ M.fourOf X) cap3 w' (by simp [M.fourOf]; omega) hr3 (HB.out.append (M.fourOf_bytes X hX1))
      rwa [HR1.out] at h
    have C3 := Lib.hid c3
    clear h4 hmap hown' hr3 hgrow' c3 HO HI
    go_wp2_with fail
    (go_at_call 13; (with_reducible refine C3.out.mono ?_); rintro e w3 ⟨rfl, rfl⟩)
    clear C3
    go_wp2_with fail
    (go_at_call 17; (with_reducible refine (four_any a1 _ hs).mono ?_); rintro e w4 ⟨rfl, h2⟩)
    obtain ⟨h2b, h2i⟩ := h2.out
    replace HBL := Lib.hid (HBL.out.trans (h2b.mono HBL.out.size))
    have c4 : Calls Try.prog 13 #[.slice (some ⟨w'.heap.size, 0, none⟩) 4 4] w4 fun e w'' => e = .returned (.int .u32 R) ∧ w4 = w'' := by
      have h := sum_any _ (M.fourOf a1) 4 w4 (by simp [M.fourOf]) h2i.row (M.fourOf_bytes a1 hs)
      rwa [HRR.out] at h
    have C4 := Lib.hid c4
    clear h2 h2b h2i c4
    go_wp2_with fail
    (go_at_call 13; (with_reducible refine C4.out.mono ?_); rintro e w5 ⟨rfl, rfl⟩)
    clear C4
    go_wp2_with fail
    (go_at_call 16; (with_reducible refine (copy_any _ l _ _ (by omega) (HR.out.kept HBL.out)).mono ?_); rintro e w5 ⟨v, rfl, hown, hb1⟩)
    have own_ne : v.ownBlock = none ∨ v.ownBlock ≠ none := by cases v.ownBlock <;> simp
    have HO := Lib.hid (own_mono hown HBL.out.size)
    replace HBL := Lib.hid (HBL.out.trans (hb1.mono HBL.out.size))
    clear hown hb1
    go_wp2_with fail
    have c1 : Calls Try.prog 13 #[.slice a0 l.length cap0] w5 fun e w' => e = .returned (.int .u32 S) ∧ w5 = w' := by
      have h := sum_any a0 l cap0 w5 (by omega) (HR.out.kept HBL.out) HB.out
      rwa [HS.out] at h
    (go_at_call 13; (with_reducible refine c1.mono ?_); rintro e w' ⟨rfl, rfl⟩)
    clear c1
    go_wp2_with fail
    (go_at_call 17; (with_reducible refine (four_any S _ hS1).mono ?_); rintro e w6 ⟨rfl, h2⟩)
    obtain ⟨h2b, h2i⟩ := h2.out
    replace HO := Lib.hid (HO.out.kept (row := none) ⟨h2b.os, h2b.tape, h2b.output, h2b.size, fun k hk _ => h2b.block k hk⟩ own_ne)
    replace HBL := Lib.hid (HBL.out.trans (h2b.mono HBL.out.size))
    have HI := Lib.hid h2i
    clear h2 h2b h2i own_ne
    go_wp2_with (at_builtin; refine append_own_wanted rfl _ _ 22 rfl w.heap.size 5 i0 (.int .u8 0) 1 1 Try.underlying22 HINF.out.1 HINF.out.2.1 HINF.out.2.2.1 HINF.out.2.2.2 rfl (by decide) v l.length (l.map (Value.int .u8)) rfl HO.out ⟨_, 0, none⟩ 4 4 ((M.fourOf S).map (Value.int .u8)) rfl rfl (Row.news HI.out) (ints_oneCell _ _) (by unfold maxLen; omega) (by omega) HBL.out.size ?_; intro v' w' hown' hgrow')
    have h4 : l.length + 4 = (l ++ M.fourOf S).length := by simp [M.fourOf]
    have hmap : l.map (Value.int .u8) ++ (M.fourOf S).map (Value.int .u8) = (l ++ M.fourOf S).map (Value.int .u8) := by rw [List.map_append]
    rw [h4, hmap] at hown'
    obtain ⟨A7, cap7, rfl, hr3⟩ := M.own_row hown'
    replace HBL := Lib.hid (HBL.out.grown hgrow' HBL.out.size (fun k hk => (HO.out.lt k hk).1))
    have c3 : Calls Try.prog 13 #[.slice A7 (l ++ M.fourOf S).length cap7] w' fun e w'' => e = .returned (.int .u32 1214729159) ∧ w' = w'' := by
      have h := sum_any A7 (l ++ M.fourOf S) cap7 w' (by simp [M.fourOf]; omega) hr3 (HB.out.append (M.fourOf_bytes S hS1))
      rwa [HR2.out] at h
    have C3 := Lib.hid c3
    clear h4 hmap hown' hr3 hgrow' c3 HO HI
    go_wp2_with fail
    (go_at_call 13; (with_reducible refine C3.out.mono ?_); rintro e w3 ⟨rfl, rfl⟩)
    clear C3
    go_wp2_with fail
    (go_at_call 9; (with_reducible refine (works_any _).mono ?_); rintro e w8 ⟨rfl, hB⟩)
    replace HBL := Lib.hid (HBL.out.trans (hB.mono HBL.out.size))
    clear hB
    go_wp2
    go_ret
    exact ⟨rfl, HBL.out⟩

/-! ### THE ROW's STEP: WRITTEN OUT: LEAVE IT -/
set_option maxRecDepth 100000 in
theorem lifted (os : Os) (started : os.Started) (H : Type) (enc : TypeId × Value → H) :
    ReturnsInHanded {} Try.checked os 8 .any (Rows.crcOwnSpec.pre6 enc Try.prog Try.f8 Rows.crcOwnRow.domain false) (Rows.crcOwnSpec.post enc Try.prog Try.f8 false true false false) := by
  refine returnsInHanded_of_change (C := Try.checked) own started (by kernel_rfl) Try.func8
    (ChangeSpec.witness6 (enc := enc) (C := Try.checked) false ⟨#[], #[.slice none 0 0, .int .u32 0], []⟩ 8 (by kernel_rfl) (by kernel_rfl) (by kernel_rfl) (by kernel_rfl)) ?_
  intro W base args ds gs before hval0 hW hcnd _
  have hval : ∀ (j : Nat) t v, Try.f8.params[j]? = some t → args[j]? = some v → Value.okWide Try.prog W .any base t v := hval0
  have hW' := hW
  obtain ⟨p, q, hA0, hV, rfl, hfz, hnd⟩ := hW
  have hA : DataW.TrodAll enc Try.prog W 0 (fun _ => true) true Try.f8.params.toList args.toList ds p := hA0
  rw [Try.params8] at hA hval
  obtain ⟨v0, vs0, d0, ds0, p0, q0, hargs, rfl, rfl, h0, r0⟩ := trodAll_cons hA
  obtain ⟨v1, vs1, d1, ds1, p1, q1, rfl, rfl, rfl, h1, r1⟩ := trodAll_cons r0
  obtain ⟨rfl, rfl, rfl⟩ := trodAll_nil r1
  obtain rfl : args = #[v0, v1] := by cases args; simp_all
  obtain ⟨rfl, rfl⟩ := trodVars_none hV
  obtain ⟨a0, len0, cap0, rfl⟩ := okWide_slice Try.underlying22 (hval 0 22 v0 rfl rfl)
  have k0 := h0
  have lt0 : ∀ x ∈ p0, x.block < W.heap.size := by obtain ⟨m, hm⟩ := k0; exact DataW.trod_lt m _ _ _ hm
  obtain ⟨z0, w0⟩ : ∃ zs, IsRow .u8 W a0 len0 cap0 zs := by
    obtain ⟨fuel, hf⟩ := h0
    rcases open_ints Try.underlying22 Try.underlying5 (by kernel_rfl) hf with ⟨hcs, _⟩ | ⟨x, l, c, zs, hcs, _, hl, hm, hz, _, hcell, hwz⟩
    · simp [Value.cells] at hcs
      obtain ⟨rfl, rfl, rfl⟩ := hcs
      exact ⟨[], .inl ⟨rfl, rfl, rfl, rfl⟩⟩
    · simp [Value.cells] at hcs
      obtain ⟨rfl, rfl, rfl⟩ := hcs
      exact ⟨zs, .inr ⟨_, rfl, hl, hm, by simpa using hz, hcell, hwz⟩⟩
  obtain ⟨a1, rfl, rfl, rfl, w1⟩ := open_int Try.underlying23 (hval 1 23 v1 rfl rfl) h1
  clear hA0 hval0
  refine (walk a0 len0 cap0 z0 a1 W w0 w1).mono fun e W' ⟨he, bel⟩ => ?_
  subst he
  exact ⟨_, rfl, _, _, _, [], _, [], hW', trodAll_mk1 (shut_bool Try.underlying4 _), (trodAll_cons_mk (Below.trod laidOut (by kernel_rfl) (of_decide_eq_true (by kernel_rfl)) k0 bel lt0) (trodAll_cons_mk (shut_int Try.underlying23 w1) trodAll_mk0)), rfl, bel.frame _, fun h => by cases h⟩

theorem over : Rows.crcOwnRow.holds Try.pinned (OpenSpec.ofChange Rows.crcOwnSpec) :=
  OpenClaim.holds_of_wide 8 Try.f8 rfl rfl rfl rfl rfl rfl rfl ⟨rfl, rfl, rfl, rfl, rfl⟩ rfl rfl rfl rfl rfl (by kernel_rfl) Try.func8 (by kernel_rfl)
    (of_decide_eq_true (by kernel_rfl)) (by unfold Func.isWrapper; first | (rw [if_pos (by decide +kernel)]; kernel_rfl) | (rw [if_neg (by decide +kernel)]; exact ⟨rfl, rfl⟩))
    (fun os started H enc _ => lifted os started H enc)

/-- ████ THE STATEMENT ████ -/
theorem proved : Rows.CrcOwnSaid := over
#print axioms proved
end Go.Proofs.Ytaccdonphilpoaa.crcOwn

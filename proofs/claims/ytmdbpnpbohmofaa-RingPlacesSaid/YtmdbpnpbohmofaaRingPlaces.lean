/- Proved: 'Rows.RingPlacesSaid': for every input fairleadlaw05.RingPlaces returns true, and each argument reads afterwards as before. Conditions: none beyond the given row's own. -/
import Derived.Test.YtmdbpnpbohmofaaRows
import Derived.WalkKit
import Derived.ProofKit
import Derived.OpenShut
import Derived.ShutString
import Derived.ChangeOld
import Derived.ChangeMaps5
import Derived.Below
import Derived.Test.YtmdbpnpbohmofaaOps
import Derived.Test.YtmdbpnpbohmofaaWalkKC
import Derived.Test.YtmdbpnpbohmofaaWorks
namespace Go.Proofs.Ytmdbpnpbohmofaa.ringPlaces
open Go.ChangeShapes Go.WideShapes Go.ChangeAt Go.RowKit
open Go.ChangeMaps (open_string shut_string)
set_option linter.unusedVariables false
open M

theorem own : ownKnob Try.prog.godebug = none := by kernel_rfl
theorem laidOut : laidOutB Try.prog = true := by kernel_rfl

attribute [local go_sem] max_i64 min_i64
theorem take_next {l : List (Int × Int)} {j : Nat} (h : j < l.length) : l.take (j + 1) = l.take j ++ [((l.getD j (0, 0)).1, (l.getD j (0, 0)).2)] := by
  have e : l.getD j (0, 0) = l[j] := by simp [List.getD_eq_getElem?_getD, h]
  rw [e]
  exact List.take_succ_eq_append_getElem h
set_option maxHeartbeats 2000000 in
set_option maxRecDepth 100000 in
theorem walk (a0 : Int) (a1 : Option Addr) (cap1 : Nat) (l1 : List (Int × Int)) (a2 : Int) (w : World) (w0 : (Lit.int .u8 a0).wf = true) (r1 : PairRow w a1 l1) (w1 : PairFit l1) (w2 : (Lit.int .i64 a2).wf = true) :
    Calls Try.prog 6 #[.int .u8 a0, .slice a1 l1.length cap1, .int .i64 a2] w fun e w' => e = .returned (.bool true) ∧ Below w.heap.size w w' := by
  have hb := wf_u8 w0
  have HR := Lib.hid r1
  clear w0 w1 w2 r1
  obtain ⟨h0, h1⟩ := hb
  obtain ⟨n, hn⟩ : ∃ n : Nat, 1 + a0 = (n : Int) := ⟨(1 + a0).toNat, by omega⟩
  have n1 : 1 ≤ (n : Int) := by omega
  have n2 : (n : Int) ≤ 1048576 := by omega
  obtain ⟨b, hb⟩ : ∃ b, w.heap.size + 1 = b := ⟨_, rfl⟩
  have C0 := newK n n rfl w n1 n2
  rw [hb] at C0
  have CN := Lib.hid C0
  clear hb C0
  by_cases hg1 : 300 < (l1.length : Int)
  · have hd : decide (300 < l1.length) = true := by simp; omega
    go_enter Try.func6, Try.ntmps6
    go_wp2_with (first
      | (go_at_call 23; (with_reducible refine CN.out.mono ?_); rintro e w1 ⟨rfl, HH⟩)
      | (go_at_call 16; (with_reducible refine (works_any _).mono ?_); rintro e w4 ⟨rfl, hB⟩))
    go_ret
    exact ⟨rfl, HH.out.below.trans (hB.mono HH.out.below.size)⟩
  have hL1 : (l1.length : Int) ≤ 300 := by omega
  clear hg1
  obtain ⟨M, hM⟩ : ∃ M : Nat, mn (n : Int) (l1.length : Int) = M := by
    obtain ⟨q1, q2, q3⟩ := mn_le (n : Int) (l1.length : Int)
    exact ⟨(mn (n : Int) (l1.length : Int)).toNat, by omega⟩
  have hMM : Hid (M ≤ n ∧ M ≤ l1.length ∧ (M = n ∨ M = l1.length)) := by
    obtain ⟨q1, q2, q3⟩ := mn_le (n : Int) (l1.length : Int)
    rw [hM] at q1 q2 q3
    exact Lib.hid ⟨by omega, by omega, by omega⟩
  go_enter Try.func6, Try.ntmps6
  go_wp2_with fail
  (go_at_call 23; (with_reducible refine CN.out.mono ?_); rintro e w1 ⟨rfl, HH⟩)
  clear CN
  go_wp2_with fail
  clear hn h0 h1
  obtain ⟨wo, hwo⟩ : ∃ wo : World, wo = w1 := ⟨_, rfl⟩
  subst hwo
  go_loopw [10] (fun i wr => ∃ j c : Nat, i = .int .i64 j ∧ j ≤ l1.length ∧ c ≤ j ∧ c ≤ n ∧ (c = j ∨ c = n) ∧ Hid (HoldsK w wr b n (l1.take c))) (fun i _ => l1.length - (intOf i).toNat)
  case atStart => exact ⟨0, 0, rfl, by omega, by omega, by omega, .inl rfl, HH⟩
  case round =>
  clear HH
  obtain ⟨j, c, rfl, hj, hcj, hcn, hcc, HS⟩ := hrel
  by_cases hlt : j < l1.length
  · have hlt' : (j : Int) < (l1.length : Int) := by omega
    obtain ⟨bb, off, rfl, hc1, hc2⟩ := HR.out.at_ hlt
    have hbb := World.block_lt_of_cell? w _ hc1
    obtain ⟨p, hp⟩ : ∃ p, (l1.getD j (0, 0)).1 = p := ⟨_, rfl⟩
    obtain ⟨q, hq⟩ : ∃ q, (l1.getD j (0, 0)).2 = q := ⟨_, rfl⟩
    rw [hp] at hc1
    rw [hq] at hc2
    have HTK : Hid (l1.take (j + 1) = l1.take j ++ [(p, q)]) := by rw [← hp, ← hq]; exact take_next hlt
    clear hp hq
    rw [← HS.out.below.cell (p := ⟨bb, off + j * 2, none⟩) hbb] at hc1
    rw [← HS.out.below.cell (p := ⟨bb, off + j * 2 + 1, none⟩) hbb] at hc2
    by_cases hjn : c = n
    · subst hjn
      have CP := Lib.hid (pushK_no HS.out (by rw [List.length_take]; omega) p q)
      clear HS hbb
      go_wp2_with fail
      (go_at_call 24; (with_reducible refine CP.out.mono ?_); rintro e w2 ⟨rfl, HS⟩)
      clear CP hc1 hc2
      go_wp2_with fail
      go_roundw
      case rel => exact ⟨j + 1, c, by go_num, by omega, by omega, by omega, .inr rfl, HS⟩
      case measure => (simp [intOf] <;> omega)
    · obtain rfl : c = j := by omega
      have CP := Lib.hid (pushK HS.out (by rw [List.length_take]; omega) p q)
      clear HS hbb
      go_wp2_with fail
      (go_at_call 24; (with_reducible refine CP.out.mono ?_); rintro e w2 ⟨rfl, HS⟩)
      have H2 : Hid (HoldsK w w2 b n (l1.take (c + 1))) := by rw [HTK.out]; exact HS
      clear CP hc1 hc2 HS HTK
      go_wp2_with fail
      go_roundw
      case rel => exact ⟨c + 1, c + 1, by go_num, by omega, by omega, by omega, .inl rfl, H2⟩
      case measure => (simp [intOf] <;> omega)
  obtain rfl : j = l1.length := by omega
  obtain rfl : c = M := by have := hMM.out; omega
  have hlt' : ¬ (l1.length : Int) < (l1.length : Int) := by omega
  clear hlt hcc hcj hj hcn
  go_wp2_with fail
  obtain ⟨wi, hwi⟩ : ∃ wi : World, wi = wr := ⟨_, rfl⟩
  subst hwi
  go_loopw [12] (fun i wr => ∃ j : Nat, i = .int .i64 j ∧ j ≤ c ∧ Hid (HoldsK w wr b n (l1.take c))) (fun i _ => c - (intOf i).toNat)
  case atStart => exact ⟨0, rfl, by omega, HS⟩
  case round =>
  clear HS hlt'
  obtain ⟨j, rfl, hj, HS⟩ := hrel
  have HTL : Hid ((l1.take c).length = c) := by have := hMM.out; rw [List.length_take]; exact Lib.hid (by omega)
  by_cases hlt : j < c
  · have hlt' : (j : Int) < (c : Int) := by omega
    have hjl : j < l1.length := by have := hMM.out; omega
    obtain ⟨bb, off, rfl, hc1, hc2⟩ := HR.out.at_ hjl
    obtain ⟨p, hp⟩ : ∃ p, (l1.getD j (0, 0)).1 = p := ⟨_, rfl⟩
    obtain ⟨q, hq⟩ : ∃ q, (l1.getD j (0, 0)).2 = q := ⟨_, rfl⟩
    have hg : (l1.take c).getD j (0, 0) = l1.getD j (0, 0) := by simp [List.getD_eq_getElem?_getD, hlt]
    have CP := Lib.hid (atK HS.out j j rfl (by rw [HTL.out]; exact hlt) p q (by rw [hg, hp]) (by rw [hg, hq]))
    rw [hp] at hc1
    rw [hq] at hc2
    have HBB := Lib.hid (World.block_lt_of_cell? w _ hc1)
    have HC1 := Lib.hid hc1
    have HC2 := Lib.hid hc2
    have hjl' : (j : Int) < (l1.length : Int) := by omega
    have hjz : (0 : Int) ≤ (j : Int) := by omega
    clear hg hp hq hc1 hc2 HS hjl
    go_wp2_with fail
    (go_at_call 25; (with_reducible refine CP.out.mono ?_); rintro e w2 ⟨rfl, HS⟩)
    clear CP
    have hc1 : w2.cell? ⟨bb, off + j * 2, none⟩ = some (.int .u16 p) := by rw [HS.out.below.cell (p := ⟨bb, _, none⟩) HBB.out]; exact HC1.out
    have hc2 : w2.cell? ⟨bb, off + j * 2 + 1, none⟩ = some (.int .u16 q) := by rw [HS.out.below.cell (p := ⟨bb, _, none⟩) HBB.out]; exact HC2.out
    go_wp2_with fail
    have hW1 : (w2.alloc (.cells #[.int .u16 p, .int .u16 q] 48)).cell? ⟨bb, off + j * 2, none⟩ = some (.int .u16 p) := by
      rw [Below.cell ((Below.refl w2.heap.size w2).alloc (Nat.le_refl _) _) (p := ⟨bb, off + j * 2, none⟩) (World.block_lt_of_cell? w2 _ hc1)]; exact hc1
    have hW2 : (w2.alloc (.cells #[.int .u16 p, .int .u16 q] 48)).cell? ⟨bb, off + j * 2 + 1, none⟩ = some (.int .u16 q) := by
      rw [Below.cell ((Below.refl w2.heap.size w2).alloc (Nat.le_refl _) _) (p := ⟨bb, off + j * 2 + 1, none⟩) (World.block_lt_of_cell? w2 _ hc2)]; exact hc2
    have hW3 : (w2.alloc (.cells #[.int .u16 p, .int .u16 q] 48)).cell? ⟨w2.heap.size, 0, none⟩ = some (.int .u16 p) := cell_at (heap_alloc_new _ _) 0
    have hW4 : (w2.alloc (.cells #[.int .u16 p, .int .u16 q] 48)).cell? ⟨w2.heap.size, 1, none⟩ = some (.int .u16 q) := cell_at (heap_alloc_new _ _) 1
    have HS2 := Lib.hid (HS.out.kept ((Below.refl w2.heap.size w2).alloc (Nat.le_refl _) (.cells #[.int .u16 p, .int .u16 q] 48)))
    clear HS hc1 hc2
    generalize w2.alloc (.cells #[.int .u16 p, .int .u16 q] 48) = W at hW1 hW2 hW3 hW4 HS2 ⊢
    generalize w2.heap.size = x at hW3 hW4 ⊢
    go_quiet (fail)
    clear hW1 hW2 hW3 hW4
    go_wp2_with fail
    go_roundw
    case rel => exact ⟨j + 1, by go_num, by omega, HS2.out.kept ⟨rfl, rfl, rfl, Nat.le_refl _, fun _ _ => rfl⟩⟩
    case measure => (simp [intOf] <;> omega)
  obtain rfl : j = c := by omega
  have hlt' : ¬ (j : Int) < (j : Int) := by omega
  clear hlt hj
  by_cases hi : a2 < 0 ∨ (j : Int) ≤ a2
  · have CP := Lib.hid (atK_no HS.out a2 (by rw [HTL.out]; exact hi))
    have hi' : (decide (0 ≤ a2) = false ∧ a2 < 0) ∨ (decide (0 ≤ a2) = true ∧ decide (a2 < (j : Int)) = false ∧ 0 ≤ a2 ∧ (j : Int) ≤ a2) := by
      by_cases h : 0 ≤ a2
      · right; exact ⟨by simpa using h, by simp; omega, h, by omega⟩
      · left; exact ⟨by simpa using h, by omega⟩
    clear HS hi
    rcases hi' with ⟨d1, d2⟩ | ⟨d1, d2, d3, d4⟩
    all_goals
      go_wp2_with fail
      (go_at_call 25; (with_reducible refine CP.out.mono ?_); rintro e w2 ⟨rfl, HS⟩)
      clear CP
      have HS2 := Lib.hid (HS.out.kept ((Below.refl w2.heap.size w2).alloc (Nat.le_refl _) (.cells #[.int .u16 0, .int .u16 0] 48)))
      have CL := Lib.hid (lenK HS2.out (j : Int) (by rw [HTL.out]))
      have HB := Lib.hid HS2.out.below
      clear HS HS2
      go_wp2_with fail
      (go_at_call 26; (with_reducible refine CL.out.mono ?_); rintro e w' ⟨rfl, rfl⟩)
      go_wp2_with (go_at_call 16; (with_reducible refine (works_any _).mono ?_); rintro e w4 ⟨rfl, hB⟩)
      go_ret
      exact ⟨rfl, HB.out.trans (hB.mono HB.out.size)⟩
  · obtain ⟨k, rfl⟩ : ∃ k : Nat, a2 = k := ⟨a2.toNat, by omega⟩
    have hk : k < j := by omega
    have d1 : (0 : Int) ≤ (k : Int) := by omega
    have d2 : (k : Int) < (j : Int) := by omega
    have d3 : decide (k < j) = true := by simpa using hk
    obtain ⟨p, hp⟩ : ∃ p, ((l1.take j).getD k (0, 0)).1 = p := ⟨_, rfl⟩
    obtain ⟨q, hq⟩ : ∃ q, ((l1.take j).getD k (0, 0)).2 = q := ⟨_, rfl⟩
    have CP := Lib.hid (atK HS.out k k rfl (by rw [HTL.out]; exact hk) p q hp hq)
    clear HS hi hp hq
    go_wp2_with fail
    (go_at_call 25; (with_reducible refine CP.out.mono ?_); rintro e w2 ⟨rfl, HS⟩)
    clear CP
    have HS2 := Lib.hid (HS.out.kept ((Below.refl w2.heap.size w2).alloc (Nat.le_refl _) (.cells #[.int .u16 p, .int .u16 q] 48)))
    have CL := Lib.hid (lenK HS2.out (j : Int) (by rw [HTL.out]))
    have HB := Lib.hid HS2.out.below
    clear HS HS2
    go_wp2_with fail
    (go_at_call 26; (with_reducible refine CL.out.mono ?_); rintro e w' ⟨rfl, rfl⟩)
    go_wp2_with (go_at_call 16; (with_reducible refine (works_any _).mono ?_); rintro e w4 ⟨rfl, hB⟩)
    go_ret
    exact ⟨rfl, HB.out.trans (hB.mono HB.out.size)⟩

/-! ### The row's step -/
set_option maxRecDepth 100000 in
theorem lifted (os : Os) (started : os.Started) (H : Type) (enc : TypeId × Value → H) :
    ReturnsInHanded {} Try.checked os 6 .any (Rows.ringPlacesSpec.pre6 enc Try.prog Try.f6 Rows.ringPlacesRow.domain false) (Rows.ringPlacesSpec.post enc Try.prog Try.f6 false true false false) := by
  refine returnsInHanded_of_change (C := Try.checked) own started (by kernel_rfl) Try.func6
    (ChangeSpec.witness6 (enc := enc) (C := Try.checked) false ⟨#[], #[.int .u8 0, .slice none 0 0, .int .i64 0], []⟩ 8 (by kernel_rfl) (by kernel_rfl) (by kernel_rfl) (by kernel_rfl)) ?_
  intro W base args ds gs before hval0 hW hcnd _
  have hval : ∀ (j : Nat) t v, Try.f6.params[j]? = some t → args[j]? = some v → Value.okWide Try.prog W .any base t v := hval0
  have hW' := hW
  obtain ⟨p, q, hA0, hV, rfl, hfz, hnd⟩ := hW
  have hA : DataW.TrodAll enc Try.prog W 0 (fun _ => true) true Try.f6.params.toList args.toList ds p := hA0
  rw [Try.params6] at hA hval
  obtain ⟨v0, vs0, d0, ds0, p0, q0, hargs, rfl, rfl, h0, rr0⟩ := trodAll_cons hA
  obtain ⟨v1, vs1, d1, ds1, p1, q1, rfl, rfl, rfl, h1, rr1⟩ := trodAll_cons rr0
  obtain ⟨v2, vs2, d2, ds2, p2, q2, rfl, rfl, rfl, h2, rr2⟩ := trodAll_cons rr1
  obtain ⟨rfl, rfl, rfl⟩ := trodAll_nil rr2
  obtain rfl : args = #[v0, v1, v2] := by cases args; simp_all
  obtain ⟨rfl, rfl⟩ := trodVars_none hV
  obtain ⟨a0, rfl, rfl, rfl, w0⟩ := open_int Try.underlying5 (hval 0 5 v0 rfl rfl) h0
  obtain ⟨a1, len1, cap1, rfl⟩ := okWide_slice Try.underlying43 (hval 1 43 v1 rfl rfl)
  have k1 := h1
  have lt1 : ∀ x ∈ p1, x.block < W.heap.size := by obtain ⟨m, hm⟩ := k1; exact DataW.trod_lt m _ _ _ hm
  obtain ⟨l1, rfl, r1, w1⟩ : ∃ L : List (Int × Int), L.length = len1 ∧ PairRow W a1 L ∧ PairFit L := by
    obtain ⟨fuel, hf⟩ := h1
    exact pairs_of (by simpa [Value.cells] using hf)
  obtain ⟨a2, rfl, rfl, rfl, w2⟩ := open_int Try.underlying3 (hval 2 3 v2 rfl rfl) h2
  clear hA0 hval0
  refine (walk a0 a1 cap1 l1 a2 W w0 r1 w1 w2).mono fun e W' ⟨he, bel⟩ => ?_
  subst he
  exact ⟨_, rfl, _, _, _, [], _, [], hW', trodAll_mk1 (shut_bool Try.underlying4 _), (trodAll_cons_mk (shut_int Try.underlying5 w0) (trodAll_cons_mk (Below.trod laidOut (by kernel_rfl) (of_decide_eq_true (by kernel_rfl)) k1 bel lt1) (trodAll_cons_mk (shut_int Try.underlying3 w2) trodAll_mk0))), rfl, bel.frame _, fun h => by cases h⟩

theorem over : Rows.ringPlacesRow.holds Try.pinned (OpenSpec.ofChange Rows.ringPlacesSpec) :=
  OpenClaim.holds_of_wide 6 Try.f6 rfl rfl rfl rfl rfl rfl rfl ⟨rfl, rfl, rfl, rfl, rfl⟩ rfl rfl rfl rfl rfl (by kernel_rfl) Try.func6 (by kernel_rfl)
    (of_decide_eq_true (by kernel_rfl)) (by unfold Func.isWrapper; first | (rw [if_pos (by decide +kernel)]; kernel_rfl) | (rw [if_neg (by decide +kernel)]; exact ⟨rfl, rfl⟩))
    (fun os started H enc _ => lifted os started H enc)

/-- The statement. -/
theorem proved : Rows.RingPlacesSaid := over
#print axioms proved
end Go.Proofs.Ytmdbpnpbohmofaa.ringPlaces

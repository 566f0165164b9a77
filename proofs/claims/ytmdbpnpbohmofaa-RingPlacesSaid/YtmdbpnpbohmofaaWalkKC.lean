/- Walked: At of a ring of pairs (api.Skip). -/
import Derived.Test.YtmdbpnpbohmofaaWalkKB
namespace Go.Proofs.Ytmdbpnpbohmofaa
open Go.RowKit M Go.Conc
set_option linter.unusedVariables false
theorem atK_none {w : World} {F : Nat → Prop} {b n m : Nat} {xs : List Value} (h : Ring 83 48 2 w F b n m xs) (i : Int) (hi : i < 0 ∨ (m : Int) ≤ i) :
    Calls Try.prog 25 #[.pointer (some ⟨b, 0, none⟩), .int .i64 i] w fun e w' => e = .returned (.tuple #[.agg #[.int .u16 0, .int .u16 0], .bool false]) ∧ Below w.heap.size w w' := by
  obtain ⟨V, hV⟩ : ∃ V, w.alloc (.cells #[.int .u16 0, .int .u16 0] 48) = V := ⟨_, rfl⟩
  have HL : Hid _ := Lib.hid (lenK_any (w := V) (F := F) (by rw [← hV]; exact h.kept (by simp) fun k hk => heap_alloc_old _ _ (h.lt k hk)))
  obtain ⟨x, hx⟩ : ∃ x, w.heap.size = x := ⟨_, rfl⟩
  have hb : V.heap[x]? = some (.cells #[.int .u16 0, .int .u16 0] 48 (0, 0)) := by rw [← hV, ← hx]; exact heap_alloc_new w _
  have hx0 : V.cell? ⟨x, 0, none⟩ = some (.int .u16 0) := cell_at hb 0
  have hx1 : V.cell? ⟨x, 1, none⟩ = some (.int .u16 0) := cell_at hb 1
  have hf0 : V.frozen? ⟨x, 0, none⟩ = false := free_at hb 0
  have hf1 : V.frozen? ⟨x, 1, none⟩ = false := free_at hb 1
  have HB : Hid (Below w.heap.size w V) := by rw [← hV]; exact (Below.refl _ _).alloc (Nat.le_refl _) _
  have HV := Lib.hid hV
  have HX := Lib.hid hx
  clear h hb hV
  have hi' : i < 0 ∨ (¬ i < 0 ∧ (m : Int) ≤ i) := by omega
  clear hi
  clear hx
  rcases hi' with h | ⟨h, h2⟩
  · go_enter Try.func25, Try.ntmps25
    have hx := HX.out
    go_wp2_with fail
    rw [HV.out]
    exact bodyPost_ret (v := .tuple #[.agg #[.int .u16 0, .int .u16 0], .bool false]) (by simp [results, Try.results25, go_sem, hx0, hx1]) rfl ⟨rfl, HB.out⟩
  · go_enter Try.func25, Try.ntmps25
    have hx := HX.out
    go_wp2_with fail
    rw [HV.out]
    clear hx
    (go_at_call 26; (with_reducible refine HL.out.mono ?_); rintro e w' ⟨rfl, rfl⟩)
    go_wp2_with fail
    refine bodyPost_ret (v := .tuple #[.agg #[.int .u16 0, .int .u16 0], .bool false]) (by simp [results, Try.results25, go_sem, hx0, hx1]) rfl ⟨rfl, ?_⟩
    exact (HB.out.setCell (by rw [HX.out]; exact Nat.le_refl _) _).setCell (by rw [HX.out]; exact Nat.le_refl _) _
theorem atK_some {w : World} {F : Nat → Prop} {b n : Nat} {l : List (Int × Int)} (h : Ring 83 48 2 w F b n l.length (enc2 l)) (i : Nat) (hi : i < l.length) (p q : Int) (hp : (l.getD i (0, 0)).1 = p) (hq : (l.getD i (0, 0)).2 = q) :
    Calls Try.prog 25 #[.pointer (some ⟨b, 0, none⟩), .int .i64 i] w fun e w' => e = .returned (.tuple #[.agg #[.int .u16 p, .int .u16 q], .bool true]) ∧ Below w.heap.size w w' := by
  obtain ⟨V, hV⟩ : ∃ V, w.alloc (.cells #[.int .u16 0, .int .u16 0] 48) = V := ⟨_, rfl⟩
  obtain ⟨x, hx⟩ : ∃ x, w.heap.size = x := ⟨_, rfl⟩
  have hlt := h.lt
  have hK : Ring 83 48 2 V F b n l.length (enc2 l) := by rw [← hV]; exact h.kept (by simp) fun k hk => heap_alloc_old _ _ (h.lt k hk)
  have HL := Lib.hid (lenK_any hK)
  have hb : V.heap[x]? = some (.cells #[.int .u16 0, .int .u16 0] 48 (0, 0)) := by rw [← hV, ← hx]; exact heap_alloc_new w _
  have hx0 : V.cell? ⟨x, 0, none⟩ = some (.int .u16 0) := cell_at hb 0
  have hx1 : V.cell? ⟨x, 1, none⟩ = some (.int .u16 0) := cell_at hb 1
  have hf0 : V.frozen? ⟨x, 0, none⟩ = false := free_at hb 0
  have hf1 : V.frozen? ⟨x, 1, none⟩ = false := free_at hb 1
  have HB : Hid (Below w.heap.size w V) := by rw [← hV]; exact (Below.refl _ _).alloc (Nat.le_refl _) _
  have HV := Lib.hid hV
  have HX := Lib.hid hx
  obtain ⟨c, f, s, r, v, buf, pre, h1, h2, h3, h4, h5, h6, h7, h8, h9, h10, h11, h12, h13⟩ := hK
  obtain ⟨g, cap, rfl⟩ : ∃ g cap, v = .slice (some ⟨g, 0, none⟩) (f + l.length) cap := by
    obtain ⟨_, ⟨_, q⟩ | ⟨g, cap, _, q, _⟩⟩ := h7
    · omega
    · exact ⟨g, cap, q⟩
  have hb1 : V.cell? ⟨b, 1, none⟩ = some (.slice (some ⟨g, 0, none⟩) (f + l.length) cap) := cell_at h1 1
  have hb2 : V.cell? ⟨b, 2, none⟩ = some (.int .i64 f) := cell_at h1 2
  obtain ⟨e1, e2⟩ := enc2_at l i hi
  rw [hp] at e1
  rw [hq] at e2
  have hg0 : V.cell? ⟨g, (f + i) * 2, none⟩ = some (.int .u16 p) := by
    rw [h7.cellAt ((f + i) * 2) (by omega), List.getElem?_append_right (by omega), h8, show (f + i) * 2 - f * 2 = i * 2 by omega]; exact e1
  have hg1 : V.cell? ⟨g, (f + i) * 2 + 1, none⟩ = some (.int .u16 q) := by
    rw [h7.cellAt ((f + i) * 2 + 1) (by omega), List.getElem?_append_right (by omega), h8, show (f + i) * 2 + 1 - f * 2 = i * 2 + 1 by omega]; exact e2
  obtain ⟨j, hj⟩ : ∃ j, f + i = j := ⟨_, rfl⟩
  obtain ⟨L, hL⟩ : ∃ L, f + l.length = L := ⟨_, rfl⟩
  rw [hL] at hb1
  rw [hj] at hg0 hg1
  have j1 : (j : Int) < (L : Int) := by omega
  have j2 : (0 : Int) ≤ (j : Int) := by omega
  have i1 : ¬ (i : Int) < 0 := by omega
  have i2 : ¬ (l.length : Int) ≤ (i : Int) := by omega
  have hd1 : decide ((l.length : Int) ≤ (i : Int)) = false := by simp; omega
  have hd2 : decide (l.length ≤ i) = false := by simp; omega
  have hw2 : IntKind.i64.wrap ((f : Int) + (i : Int)) = (j : Int) := by rw [IntWalk.i64_in _ (by omega), ← hj]; omega
  clear hi hj hL e1 e2 hp hq hlt h hb hV
  clear h1 h2 h3 h4 h5 h6 h7 h8 h9 h10 h11 h12 h13
  go_enter Try.func25, Try.ntmps25
  go_wp2_with fail
  rw [HV.out]
  clear hx
  (go_at_call 26; (with_reducible refine HL.out.mono ?_); rintro e w' ⟨rfl, rfl⟩)
  clear HL
  go_wp2_with fail
  go_still_tail 12, (by kernel_rfl)
  change wpList _ _ _ _ _ V.drew
  go_wp2
  refine bodyPost_ret (v := .tuple #[.agg #[.int .u16 p, .int .u16 q], .bool true]) (by simp [results, Try.results25, go_sem, hx0, hx1]) rfl ⟨rfl, ?_⟩
  have hB := (HB.out.setCell (by rw [HX.out]; exact Nat.le_refl x) (Value.int .u16 p) (p := ⟨x, 0, none⟩)).setCell (by rw [HX.out]; exact Nat.le_refl x) (Value.int .u16 q) (p := ⟨x, 1, none⟩)
  exact ⟨hB.os, hB.tape, hB.output, hB.size, hB.block⟩
section
variable {w0 w : World} {b n : Nat} {l : List (Int × Int)}
theorem atK (h : HoldsK w0 w b n l) (i : Nat) (ii : Int) (hii : ii = i) (hi : i < l.length) (p q : Int) (hp : (l.getD i (0, 0)).1 = p) (hq : (l.getD i (0, 0)).2 = q) :
    Calls Try.prog 25 #[.pointer (some ⟨b, 0, none⟩), .int .i64 ii] w fun e w' => e = .returned (.tuple #[.agg #[.int .u16 p, .int .u16 q], .bool true]) ∧ Hid (HoldsK w0 w' b n l) := by
  subst hii
  obtain ⟨F, q1, q2, q4⟩ := h
  exact (atK_some q4 i hi p q hp hq).mono fun _ _ ⟨he, hb⟩ => ⟨he, Lib.hid (HoldsK.kept ⟨F, q1, q2, q4⟩ hb)⟩
theorem atK_no (h : HoldsK w0 w b n l) (i : Int) (hi : i < 0 ∨ (l.length : Int) ≤ i) :
    Calls Try.prog 25 #[.pointer (some ⟨b, 0, none⟩), .int .i64 i] w fun e w' => e = .returned (.tuple #[.agg #[.int .u16 0, .int .u16 0], .bool false]) ∧ Hid (HoldsK w0 w' b n l) := by
  obtain ⟨F, q1, q2, q4⟩ := h
  exact (atK_none q4 i hi).mono fun _ _ ⟨he, hb⟩ => ⟨he, Lib.hid (HoldsK.kept ⟨F, q1, q2, q4⟩ hb)⟩
end
end Go.Proofs.Ytmdbpnpbohmofaa

/- Walked: Push, At of a ring of texts. -/
import Derived.Test.YtmdbpnpbohmofaaWalkSA
namespace Go.Proofs.Ytmdbpnpbohmofaa
open Go.RowKit M Go.Conc
set_option linter.unusedVariables false
theorem pushS_nil (x : ByteArray) (w : World) : Calls Try.prog 20 #[.pointer none, .string x] w fun e w' => e = .returned (.bool false) ∧ w = w' := by
  refine calls_of_reaches Try.func20 rfl ?_
  simp only [Try.ntmps20, List.size_toArray, List.length_cons, List.length_nil, Nat.reduceAdd, Nat.reduceSub, Array.replicate_succ, Array.replicate_zero, List.push_toArray, List.append_toArray, List.nil_append, List.cons_append]
  refine Reaches.seq_wp fun K hK => ?_
  go_wp2
  refine Reaches.seq_wp fun K hK => ?_
  go_wp2
  go_ret
  exact ⟨rfl, rfl⟩
theorem pushS_full {w : World} {F : Nat → Prop} {b n m : Nat} {xs : List Value} (h : Ring 81 9 1 w F b n m xs) (hm : m = n) (x : ByteArray) :
    Calls Try.prog 20 #[.pointer (some ⟨b, 0, none⟩), .string x] w fun e w' => e = .returned (.bool false) ∧ w = w' := by
  subst hm
  obtain ⟨c, f, s, r, v, buf, pre, h1, h2, h3, h4, h5, h6, h7, h8, h9, h10, h11, h12, h13⟩ := h
  have hc0 : w.cell? ⟨b, 0, none⟩ = some (.chan (some c)) := cell_at h1 0
  have HC := Lib.hid h2
  have HB := Lib.hid h3
  clear h1 h2 h3 h4 h5 h6 h7 h8 h9 h10 h11 h12 h13
  refine calls_of_reaches Try.func20 rfl ?_
  simp only [Try.ntmps20, List.size_toArray, List.length_cons, List.length_nil, Nat.reduceAdd, Nat.reduceSub, Array.replicate_succ, Array.replicate_zero, List.push_toArray, List.append_toArray, List.nil_append, List.cons_append]
  refine Reaches.seq_wp fun K hK => ?_
  go_wp2
  refine Reaches.seq_wp fun K hK => ?_
  go_wp2
  refine Reaches.seq_wp fun K hK => ?_
  go_wp2
  refine Reaches.seq fun K hK => Reaches.region ?_
  change OpsReach _ _ _ [0, 1, 2] _ _
  refine OpsReach.full (z := .agg #[]) (v := .agg #[]) rfl rfl (by simp [execOp, go_sem, scase]) HC.out (Nat.le_of_eq HB.out.symm) ?_
  refine OpsReach.tail ?_
  simp only [commResult, scase]
  go_wp2
  refine Reaches.of_wp ?_
  go_wp2
  go_ret
  exact ⟨rfl, rfl⟩
theorem pushS_ok {w : World} {F : Nat → Prop} {b n m : Nat} {xs : List Value} (h : Ring 81 9 1 w F b n m xs) (hm : m < n) (x : ByteArray) :
    Calls Try.prog 20 #[.pointer (some ⟨b, 0, none⟩), .string x] w fun e w' => e = .returned (.bool true) ∧ Hid (∃ F', Turn w w' F F' ∧ Ring 81 9 1 w' F' b n (m + 1) (xs ++ [.string x])) := by
  obtain ⟨c, f, s, r, v, buf, pre, h1, h2, h3, h4, h5, h6, h7, h8, h9, h10, h11, h12, h13⟩ := h
  have hc0 : w.cell? ⟨b, 0, none⟩ = some (.chan (some c)) := cell_at h1 0
  have HB := Lib.hid h3
  have HM := Lib.hid hm
  have H1 := Lib.hid h1
  have H2 := Lib.hid h2
  have H4 := Lib.hid h4
  have H5 := Lib.hid h5
  have H6 := Lib.hid h6
  have H7 := Lib.hid h7
  have H8 := Lib.hid h8
  have H9 := Lib.hid h9
  have H10 := Lib.hid h10
  have H11 := Lib.hid h11
  have H12 := Lib.hid h12
  have H13 := Lib.hid h13
  clear h1 h2 h3 h4 h5 h6 h7 h8 h9 h10 h11 h12 h13 hm
  refine calls_of_reaches Try.func20 rfl ?_
  simp only [Try.ntmps20, List.size_toArray, List.length_cons, List.length_nil, Nat.reduceAdd, Nat.reduceSub, Array.replicate_succ, Array.replicate_zero, List.push_toArray, List.append_toArray, List.nil_append, List.cons_append]
  refine Reaches.seq_wp fun K hK => ?_
  go_wp2
  refine Reaches.seq_wp fun K hK => ?_
  go_wp2
  refine Reaches.seq_wp fun K hK => ?_
  go_wp2
  refine Reaches.seq fun K hK => Reaches.region ?_
  change OpsReach _ _ _ [0, 1, 2] _ _
  refine OpsReach.put (z := .agg #[]) (v := .agg #[]) rfl rfl (by simp [execOp, go_sem, scase]) H2.out (by rw [HB.out]; exact HM.out) ?_
  refine OpsReach.tail ?_
  simp only [commResult, scase]
  obtain ⟨W, hW⟩ : ∃ W, w.setChan c n (buf.push (.agg #[])) false (s + 1) r false = W := ⟨_, rfl⟩
  rw [hW]
  have HW := Lib.hid hW
  clear hW hc0
  go_wp2
  have hWb : W.heap[b]? = some (.cells #[.chan (some c), v, .int .i64 f] 81 (0, 0)) := by rw [← HW.out, setChan_heap H9.out]; exact H1.out
  have hc1 : W.cell? ⟨b, 1, none⟩ = some v := cell_at hWb 1
  have hlb : b < W.heap.size := lt_of_some hWb
  have HWb := Lib.hid hWb
  clear hWb
  have HO : Hid (W.ownsRow 0 9 1 v (f + m) (pre ++ xs)) := owns_of H7.out fun g hg => by rw [← HW.out, setChan_heap (H12.out g hg).2.2]
  obtain ⟨i0, hi, hz0, hz1, hz2⟩ := info_parts info9
  have HI := Lib.hid (And.intro hi (And.intro hz0 (And.intro hz1 hz2)))
  clear hi hz0 hz1 hz2
  have HL : Hid (f + m + 1 ≤ 2097152) := by have h5 := H5.out; have h6 := H6.out; have hm := HM.out; show _ ≤ _; omega
  refine Reaches.of_wp ?_
  go_wp2_with (at_builtin; refine wpList_append_own_at _ rfl _ _ 66 rfl 0 9 i0 (.string ⟨#[]⟩) 1 16 Try.underlying66 HI.out.1 HI.out.2.1 HI.out.2.2.1 HI.out.2.2.2 rfl (by decide) v (f + m) (pre ++ xs) rfl (HO.out.alloc _) _ 1 1 [.string x] rfl rfl (cell_one_new _ _ _) (fun u hu => by simp at hu; subst hu; rfl) (by have := HL.out; simp only [maxLen]; omega) (by have := HL.out; omega) (Nat.zero_le _) ?_)
  intro v' w3 hown hgrow hnil hat
  obtain ⟨A, cp, rfl⟩ := owns_form hown
  have hw3 : w3.heap[b]? = some (.cells #[.chan (some c), v, .int .i64 f] 81 (0, 0)) := by
    rw [hgrow.block b (by simp; omega) (fun e => (H12.out b e.symm).2.1 rfl), heap_alloc_old _ _ hlb]; exact HWb.out
  have hc3 : w3.cell? ⟨b, 1, none⟩ = some v := cell_at hw3 1
  have hf3 : w3.frozen? ⟨b, 1, none⟩ = false := free_at hw3 1
  have HE := Lib.hid (And.intro hown (And.intro hgrow hat))
  clear hown hgrow hnil hat hw3
  go_wp2
  go_ret
  refine ⟨rfl, Lib.hid ?_⟩
  exact pushed (z := .agg #[]) H1.out H2.out HB.out HM.out H5.out H6.out H8.out H9.out H10.out H11.out H12.out H13.out ⟨_, by rw [HW.out]⟩ HE.out.1 HE.out.2.1 (by simpa using HE.out.2.2) rfl
theorem pushS_turn {w0 w : World} {F : Nat → Prop} {b n : Nat} {xs : List Value} (q : Owns 81 9 w0 w F b n xs) (hm : xs.length < n) (x : ByteArray) :
    Calls Try.prog 20 #[.pointer (some ⟨b, 0, none⟩), .string x] w fun e w' => e = .returned (.bool true) ∧ Hid (∃ F', Turn w w' F F' ∧ Owns 81 9 w0 w' F' b n (xs ++ [.string x])) :=
  (pushS_ok q.2.2.2 hm x).mono fun _ _ ⟨he, hh⟩ => ⟨he, Lib.hid (q.turn (ys := xs ++ [.string x]) (fun u hu => by rcases List.mem_append.1 hu with h | h; exact q.2.2.1 u h; simp at h; subst h; rfl) (by simp) hh.out)⟩
theorem pushS {w0 w : World} {b n : Nat} {xs : List Value} (h : Holds 81 9 w0 w b n xs) (hm : xs.length < n) (x : ByteArray) :
    Calls Try.prog 20 #[.pointer (some ⟨b, 0, none⟩), .string x] w fun e w' => e = .returned (.bool true) ∧ Hid (Holds 81 9 w0 w' b n (xs ++ [.string x])) :=
  let ⟨_, q⟩ := h; (pushS_turn q hm x).mono fun _ _ ⟨he, hh⟩ => ⟨he, let ⟨F', _, o⟩ := hh.out; Lib.hid ⟨F', o⟩⟩
theorem pushS_no {w0 w : World} {b n : Nat} {xs : List Value} (h : Holds 81 9 w0 w b n xs) (hm : xs.length = n) (x : ByteArray) :
    Calls Try.prog 20 #[.pointer (some ⟨b, 0, none⟩), .string x] w fun e w' => e = .returned (.bool false) ∧ w = w' := let ⟨_, q⟩ := h; pushS_full q.2.2.2 hm x
theorem atS_none {w : World} {F : Nat → Prop} {b n m : Nat} {xs : List Value} (h : Ring 81 9 1 w F b n m xs) (i : Int) (hi : i < 0 ∨ (m : Int) ≤ i) :
    Calls Try.prog 19 #[.pointer (some ⟨b, 0, none⟩), .int .i64 i] w fun e w' => e = .returned (.tuple #[.string ⟨#[]⟩, .bool false]) ∧ w = w' := by
  have HL := Lib.hid (lenS_any h)
  clear h
  have hi' : i < 0 ∨ (¬ i < 0 ∧ (m : Int) ≤ i) := by omega
  clear hi
  rcases hi' with h | ⟨h, h2⟩
  all_goals
    go_enter Try.func19, Try.ntmps19
    go_wp2_with (go_at_call 21; (with_reducible refine HL.out.mono ?_); rintro e w' ⟨rfl, rfl⟩)
    go_ret2
    exact ⟨rfl, rfl⟩
theorem atS_nil (w : World) (i : Int) : Calls Try.prog 19 #[.pointer none, .int .i64 i] w fun e w' => e = .returned (.tuple #[.string ⟨#[]⟩, .bool false]) ∧ w = w' := by
  have hi' : i < 0 ∨ (¬ i < 0 ∧ 0 ≤ i) := by omega
  rcases hi' with h | ⟨h, h2⟩
  all_goals
    go_enter Try.func19, Try.ntmps19
    go_wp2_with (go_at_call 21; (with_reducible refine (lenS_nil _).mono ?_); rintro e w' ⟨rfl, rfl⟩)
    go_ret2
    exact ⟨rfl, rfl⟩
theorem atS_some {w : World} {F : Nat → Prop} {b n m : Nat} {xs : List Value} (h : Ring 81 9 1 w F b n m xs) (i : Nat) (hi : i < m) (x : ByteArray) (hv : xs[i]? = some (.string x)) :
    Calls Try.prog 19 #[.pointer (some ⟨b, 0, none⟩), .int .i64 i] w fun e w' => e = .returned (.tuple #[.string x, .bool true]) ∧ ∃ k, w' = w.drewN k := by
  have HL := Lib.hid (lenS_any h)
  obtain ⟨c, f, s, r, v, buf, pre, h1, h2, h3, h4, h5, h6, h7, h8, h9, h10, h11, h12, h13⟩ := h
  obtain ⟨g, cap, rfl⟩ : ∃ g cap, v = .slice (some ⟨g, 0, none⟩) (f + m) cap := by
    obtain ⟨_, ⟨_, q⟩ | ⟨g, cap, _, q, _⟩⟩ := h7
    · omega
    · exact ⟨g, cap, q⟩
  have hb1 : w.cell? ⟨b, 1, none⟩ = some (.slice (some ⟨g, 0, none⟩) (f + m) cap) := cell_at h1 1
  have hb2 : w.cell? ⟨b, 2, none⟩ = some (.int .i64 f) := cell_at h1 2
  have hg1 : w.cell? ⟨g, f + i, none⟩ = some (.string x) := by
    rw [h7.cellAt (f + i) (by omega), List.getElem?_append_right (by omega), h8, Nat.mul_one, Nat.add_sub_cancel_left]; exact hv
  obtain ⟨j, hj⟩ : ∃ j, f + i = j := ⟨_, rfl⟩
  obtain ⟨L, hL⟩ : ∃ L, f + m = L := ⟨_, rfl⟩
  rw [hL] at hb1
  rw [hj] at hg1
  have j1 : (j : Int) < (L : Int) := by omega
  have j2 : (0 : Int) ≤ (j : Int) := by omega
  have i1 : ¬ (i : Int) < 0 := by omega
  have i2 : ¬ (m : Int) ≤ (i : Int) := by omega
  have hd1 : decide ((m : Int) ≤ (i : Int)) = false := by simp; omega
  have hd2 : decide (m ≤ i) = false := by simp; omega
  have hw2 : IntKind.i64.wrap ((f : Int) + (i : Int)) = (j : Int) := by rw [IntWalk.i64_in _ (by omega), ← hj]; omega
  clear hi hv hj hL
  clear h1 h2 h3 h4 h5 h6 h7 h8 h9 h10 h11 h12 h13
  go_enter Try.func19, Try.ntmps19
  go_wp2_with (go_at_call 21; (with_reducible refine HL.out.mono ?_); rintro e w' ⟨rfl, rfl⟩)
  clear HL
  go_quiet (fail)
  go_wp2
  go_ret2
  exact ⟨rfl, _, rfl⟩
theorem atS {w0 w : World} {b n : Nat} {xs : List Value} (h : Holds 81 9 w0 w b n xs) (i : Nat) (ii : Int) (hii : ii = i) (x : ByteArray) (hv : xs[i]? = some (.string x)) :
    Calls Try.prog 19 #[.pointer (some ⟨b, 0, none⟩), .int .i64 ii] w fun e w' => e = .returned (.tuple #[.string x, .bool true]) ∧ Hid (Holds 81 9 w0 w' b n xs) :=
  hii ▸ (atS_some h.choose_spec.2.2.2 i (List.getElem?_eq_some_iff.1 hv).1 x hv).mono fun _ _ ⟨he, k, hk⟩ => ⟨he, by subst hk; exact Lib.hid (h.drewN k)⟩
theorem atS_no {w0 w : World} {b n : Nat} {xs : List Value} (h : Holds 81 9 w0 w b n xs) (i : Int) (hi : i < 0 ∨ (xs.length : Int) ≤ i) :
    Calls Try.prog 19 #[.pointer (some ⟨b, 0, none⟩), .int .i64 i] w fun e w' => e = .returned (.tuple #[.string ⟨#[]⟩, .bool false]) ∧ w = w' := let ⟨_, q⟩ := h; atS_none q.2.2.2 i hi
end Go.Proofs.Ytmdbpnpbohmofaa

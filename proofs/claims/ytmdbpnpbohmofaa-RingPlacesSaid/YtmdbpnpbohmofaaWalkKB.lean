/- Walked: Push of a ring of pairs (api.Skip). -/
import Derived.Test.YtmdbpnpbohmofaaWalkKA
import Derived.Deep.AppendLies
namespace Go.Proofs.Ytmdbpnpbohmofaa
open Go.RowKit M Go.Conc
set_option linter.unusedVariables false
theorem pushK_full {w : World} {F : Nat → Prop} {b n m : Nat} {xs : List Value} (h : Ring 83 48 2 w F b n m xs) (hm : m = n) (p q : Int) :
    Calls Try.prog 24 #[.pointer (some ⟨b, 0, none⟩), .agg #[.int .u16 p, .int .u16 q]] w fun e w' => e = .returned (.bool false) ∧ w.alloc (.cells #[.int .u16 p, .int .u16 q] 48) = w' := by
  subst hm
  obtain ⟨V, hV⟩ : ∃ V, w.alloc (.cells #[.int .u16 p, .int .u16 q] 48) = V := ⟨_, rfl⟩
  have h : Ring 83 48 2 V F b m m xs := by rw [← hV]; exact h.kept (by simp) fun k hk => heap_alloc_old _ _ (h.lt k hk)
  obtain ⟨c, f, s, r, v, buf, pre, h1, h2, h3, h4, h5, h6, h7, h8, h9, h10, h11, h12, h13⟩ := h
  have hc0 : V.cell? ⟨b, 0, none⟩ = some (.chan (some c)) := cell_at h1 0
  have HC := Lib.hid h2
  have HB := Lib.hid h3
  have HV := Lib.hid hV
  clear h1 h2 h3 h4 h5 h6 h7 h8 h9 h10 h11 h12 h13 hV
  refine calls_of_reaches Try.func24 rfl ?_
  simp only [Try.ntmps24, List.size_toArray, List.length_cons, List.length_nil, Nat.reduceAdd, Nat.reduceSub, Array.replicate_succ, Array.replicate_zero, List.push_toArray, List.append_toArray, List.nil_append, List.cons_append]
  refine Reaches.seq_wp fun K hK => ?_
  go_wp2
  rw [HV.out]
  refine Reaches.seq_wp fun K hK => ?_
  go_wp2
  refine Reaches.seq_wp fun K hK => ?_
  go_wp2
  refine Reaches.seq fun K hK => Reaches.region ?_
  change OpsReach _ _ _ [0, 1, 2] _ _
  refine OpsReach.full (z := .agg #[]) (v := .agg #[]) rfl rfl (by simp [execOp, go_sem, scase]) HC.out (Nat.le_of_eq HB.out.symm) ?_
  refine OpsReach.tail ?_
  simp only [commResult, scase]
  go_wp2
  refine Reaches.of_wp ?_
  go_wp2
  go_ret
  exact ⟨rfl, rfl⟩
theorem pushK_ok {w : World} {F : Nat → Prop} {b n m : Nat} {xs : List Value} (h : Ring 83 48 2 w F b n m xs) (hm : m < n) (p q : Int) :
    Calls Try.prog 24 #[.pointer (some ⟨b, 0, none⟩), .agg #[.int .u16 p, .int .u16 q]] w fun e w' => e = .returned (.bool true) ∧ Hid (∃ F', Turn w w' F F' ∧ Ring 83 48 2 w' F' b n (m + 1) (xs ++ [.int .u16 p, .int .u16 q])) := by
  obtain ⟨V, hV⟩ : ∃ V, w.alloc (.cells #[.int .u16 p, .int .u16 q] 48) = V := ⟨_, rfl⟩
  obtain ⟨x, hx⟩ : ∃ x, w.heap.size = x := ⟨_, rfl⟩
  have hb : V.heap[x]? = some (.cells #[.int .u16 p, .int .u16 q] 48 (0, 0)) := by rw [← hV, ← hx]; exact heap_alloc_new w _
  have hlt := h.lt
  have HT : Hid (Turn w V F F) := by
    rw [← hV]
    exact ⟨rfl, rfl, rfl, by simp, fun k hk _ => heap_alloc_old _ _ hk, fun k hk => .inl hk⟩
  have hnF : ∀ k, F k → k < x := fun k hk => by rw [← hx]; exact hlt k hk
  have h : Ring 83 48 2 V F b n m xs := by rw [← hV]; exact h.kept (by simp) fun k hk => heap_alloc_old _ _ (h.lt k hk)
  obtain ⟨c, f, s, r, v, buf, pre, h1, h2, h3, h4, h5, h6, h7, h8, h9, h10, h11, h12, h13⟩ := h
  obtain ⟨A, cp0, rfl⟩ := owns_form h7
  have hc0 : V.cell? ⟨b, 0, none⟩ = some (.chan (some c)) := cell_at h1 0
  have hxc : x ≠ c := fun e => by have := hnF c h11; omega
  have HB := Lib.hid h3
  have HM := Lib.hid hm
  have HV := Lib.hid hV
  have HX := Lib.hid hx
  have HXB := Lib.hid hb
  have HXC := Lib.hid hxc
  have H1 := Lib.hid h1
  have H2 := Lib.hid h2
  have H4 := Lib.hid h4
  have H5 := Lib.hid h5
  have H6 := Lib.hid h6
  have H7 := Lib.hid h7
  have H8 := Lib.hid h8
  have H9 := Lib.hid h9
  have H10 := Lib.hid h10
  have H11 := Lib.hid h11
  have H12 := Lib.hid h12
  have H13 := Lib.hid h13
  clear h1 h2 h3 h4 h5 h6 h7 h8 h9 h10 h11 h12 h13 hV hm hb hxc hnF hlt
  refine calls_of_reaches Try.func24 rfl ?_
  simp only [Try.ntmps24, List.size_toArray, List.length_cons, List.length_nil, Nat.reduceAdd, Nat.reduceSub, Array.replicate_succ, Array.replicate_zero, List.push_toArray, List.append_toArray, List.nil_append, List.cons_append]
  refine Reaches.seq_wp fun K hK => ?_
  go_wp2
  rw [HV.out]
  clear hx
  refine Reaches.seq_wp fun K hK => ?_
  go_wp2
  refine Reaches.seq_wp fun K hK => ?_
  go_wp2
  refine Reaches.seq fun K hK => Reaches.region ?_
  change OpsReach _ _ _ [0, 1, 2] _ _
  refine OpsReach.put (z := .agg #[]) (v := .agg #[]) rfl rfl (by simp [execOp, go_sem, scase]) H2.out (by rw [HB.out]; exact HM.out) ?_
  refine OpsReach.tail ?_
  simp only [commResult, scase]
  obtain ⟨W, hW⟩ : ∃ W, V.setChan c n (buf.push (.agg #[])) false (s + 1) r false = W := ⟨_, rfl⟩
  rw [hW]
  have HW := Lib.hid hW
  clear hW hc0
  go_wp2
  have hWb : W.heap[b]? = some (.cells #[.chan (some c), .slice A (f + m) cp0, .int .i64 f] 83 (0, 0)) := by rw [← HW.out, setChan_heap H9.out]; exact H1.out
  have hWx : W.heap[x]? = some (.cells #[.int .u16 p, .int .u16 q] 48 (0, 0)) := by rw [← HW.out, setChan_heap HXC.out]; exact HXB.out
  have hc1 : W.cell? ⟨b, 1, none⟩ = some (.slice A (f + m) cp0) := cell_at hWb 1
  have hx0 : W.cell? ⟨x, 0, none⟩ = some (.int .u16 p) := cell_at hWx 0
  have hx1 : W.cell? ⟨x, 1, none⟩ = some (.int .u16 q) := cell_at hWx 1
  have hlb : b < W.heap.size := lt_of_some hWb
  have hlx : x < W.heap.size := lt_of_some hWx
  have HWb := Lib.hid hWb
  have HO : Hid (W.ownsRow 0 48 2 (.slice A (f + m) cp0) (f + m) (pre ++ xs)) := owns_of H7.out fun g hg => by rw [← HW.out, setChan_heap (H12.out g hg).2.2]
  obtain ⟨i0, hi, hz0, hz1, hz2⟩ := info_parts info48
  have hL : f + m + 1 ≤ 2097152 := by have h5 := H5.out; have h6 := H6.out; have hm := HM.out; omega
  have hnews : ∀ j u, [Value.int .u16 p, .int .u16 q][j]? = some u → (W.drew.alloc (.cells #[.int .u16 p, .int .u16 q] 48)).cell? ((⟨W.heap.size, 0, none⟩ : Addr).add j) = some u := by
    intro j u hj
    exact World.news_of_block (heap_alloc_new W.drew (.cells #[.int .u16 p, .int .u16 q] 48)) j u hj
  obtain ⟨v', w3, hr, hown, hgrow, _, hat⟩ := run_append_own_at (P := Try.prog) (W.drew.alloc (.cells #[.int .u16 p, .int .u16 q] 48)) 0 43 43 48 i0 (.agg #[.int .u16 0, .int .u16 0]) 2 4 Try.underlying43 hi hz0 hz1 hz2 rfl (by decide) (.slice A (f + m) cp0) (f + m) (pre ++ xs) (HO.out.alloc _) ⟨W.heap.size, 0, none⟩ 1 1 [.int .u16 p, .int .u16 q] rfl hnews (fun u hu => by simp at hu; rcases hu with rfl | rfl <;> rfl) (by simp only [maxLen]; omega) (by omega) (Nat.zero_le _)
  obtain ⟨A', cp, rfl⟩ := owns_form hown
  have hw3 : w3.heap[b]? = some (.cells #[.chan (some c), .slice A (f + m) cp0, .int .i64 f] 83 (0, 0)) := by
    rw [hgrow.block b (by simp; omega) (fun e => (H12.out b e.symm).2.1 rfl), heap_alloc_old _ _ (by exact hlb)]; exact HWb.out
  have hc3 : w3.cell? ⟨b, 1, none⟩ = some (.slice A (f + m) cp0) := cell_at hw3 1
  have hf3 : w3.frozen? ⟨b, 1, none⟩ = false := free_at hw3 1
  have HE := Lib.hid (And.intro hown (And.intro hgrow hat))
  clear hown hgrow hat hw3 hWb hWx hi hz0 hz1 hz2 hnews hL HO
  refine Reaches.of_wp ?_
  go_wp2
  go_region_law ((refine step_run rfl (.slice A' (f + m + 1) cp) w3 (exec_append (by rfl) (by rfl) (by rfl) hr) ?_))
  all_goals
    clear hr hx0 hx1 hc1
    go_wp2
    go_ret
    refine ⟨rfl, Lib.hid ?_⟩
    obtain ⟨F', t, o⟩ := pushed (w := V.drew) (w2 := W.drew.alloc (.cells #[.int .u16 p, .int .u16 q] 48)) (z := .agg #[]) H1.out H2.out HB.out HM.out H5.out H6.out H8.out H9.out H10.out H11.out H12.out H13.out ⟨_, by rw [← HW.out]; rfl⟩ (by rw [← List.append_assoc]; exact HE.out.1) HE.out.2.1 HE.out.2.2 rfl
    exact ⟨F', HT.out.drew.trans t, o⟩
/-- What a law holds of a ring of pairs. -/
def enc2 (l : List (Int × Int)) : List Value := l.flatMap fun x => [.int .u16 x.1, .int .u16 x.2]
theorem enc2_append (l : List (Int × Int)) (x : Int × Int) : enc2 (l ++ [x]) = enc2 l ++ [.int .u16 x.1, .int .u16 x.2] := by simp [enc2]
theorem enc2_length (l : List (Int × Int)) : (enc2 l).length = l.length * 2 := by
  induction l with
  | nil => rfl
  | cons x l ih => simp only [enc2, List.flatMap_cons, List.length_append, List.length_cons, List.length_nil] at ih ⊢; omega
theorem enc2_at (l : List (Int × Int)) (i : Nat) (hi : i < l.length) : (enc2 l)[i * 2]? = some (.int .u16 (l.getD i (0, 0)).1) ∧ (enc2 l)[i * 2 + 1]? = some (.int .u16 (l.getD i (0, 0)).2) := by
  induction l generalizing i with
  | nil => simp at hi
  | cons x l ih =>
    have e : enc2 (x :: l) = .int .u16 x.1 :: .int .u16 x.2 :: enc2 l := by simp [enc2]
    rw [e]
    cases i with
    | zero => simp
    | succ i =>
      have := ih i (by simpa using hi)
      rw [show (i + 1) * 2 = i * 2 + 2 by omega]
      simpa using this
def HoldsK (w0 w : World) (b n : Nat) (l : List (Int × Int)) : Prop := ∃ F, Below w0.heap.size w0 w ∧ (∀ k, F k → w0.heap.size ≤ k) ∧ Ring 83 48 2 w F b n l.length (enc2 l)
section
variable {w0 w w' : World} {b n : Nat} {l : List (Int × Int)}
theorem HoldsK.below (h : HoldsK w0 w b n l) : Below w0.heap.size w0 w := let ⟨_, q, _⟩ := h; q
theorem HoldsK.bound (h : HoldsK w0 w b n l) : l.length ≤ n ∧ n ≤ 1048576 := by
  obtain ⟨F, _, _, c, f, s, r, v, buf, pre, h1, h2, h3, h4, h5, h6, h7, h8, h9, h10, h11, h12, h13⟩ := h
  exact ⟨h4, h5⟩
theorem HoldsK.kept (h : HoldsK w0 w b n l) (hb : Below w.heap.size w w') : HoldsK w0 w' b n l := by
  obtain ⟨F, q1, q2, q4⟩ := h
  exact ⟨F, q1.trans (hb.mono q1.size), q2, q4.kept hb.size fun k hk => hb.block k (q4.lt k hk)⟩
theorem newK (n : Nat) (i : Int) (hi : i = n) (w : World) (h : 1 ≤ (n : Int)) (h' : (n : Int) ≤ 1048576) :
    Calls Try.prog 23 #[.int .i64 i] w fun e w' => e = .returned (.tuple #[.pointer (some ⟨w.heap.size + 1, 0, none⟩), .int .i64 0]) ∧ Hid (HoldsK w w' (w.heap.size + 1) n []) :=
  hi ▸ (newK_good n w h h').mono fun _ _ ⟨he, hh⟩ => ⟨he, by
    obtain ⟨F', t, q⟩ := hh.out
    exact ⟨F', t.below (fun _ h => h.elim) (Nat.le_refl _), fun k hk => (t.foot k hk).elim (fun h => h.elim) id, q⟩⟩
theorem lenK (h : HoldsK w0 w b n l) (m : Int) (hm : m = l.length) :
    Calls Try.prog 26 #[.pointer (some ⟨b, 0, none⟩)] w fun e w' => e = .returned (.int .i64 m) ∧ w = w' := let ⟨_, _, _, q⟩ := h; hm ▸ lenK_any q
theorem pushK (h : HoldsK w0 w b n l) (hm : l.length < n) (p q : Int) :
    Calls Try.prog 24 #[.pointer (some ⟨b, 0, none⟩), .agg #[.int .u16 p, .int .u16 q]] w fun e w' => e = .returned (.bool true) ∧ Hid (HoldsK w0 w' b n (l ++ [(p, q)])) := by
  obtain ⟨F, q1, q2, q4⟩ := h
  refine (pushK_ok q4 hm p q).mono fun _ _ ⟨he, hh⟩ => ⟨he, ?_⟩
  obtain ⟨F', t, o⟩ := hh.out
  refine Lib.hid ⟨F', q1.trans (t.below q2 q1.size), fun k hk => ?_, by rw [enc2_append, List.length_append]; exact o⟩
  rcases t.foot k hk with z | z
  · exact q2 k z
  · exact Nat.le_trans q1.size z
theorem pushK_no (h : HoldsK w0 w b n l) (hm : l.length = n) (p q : Int) :
    Calls Try.prog 24 #[.pointer (some ⟨b, 0, none⟩), .agg #[.int .u16 p, .int .u16 q]] w fun e w' => e = .returned (.bool false) ∧ Hid (HoldsK w0 w' b n l) := by
  obtain ⟨F, q1, q2, q4⟩ := h
  refine (pushK_full q4 hm p q).mono fun _ _ ⟨he, hh⟩ => ⟨he, ?_⟩
  subst hh
  exact Lib.hid (HoldsK.kept ⟨F, q1, q2, q4⟩ ((Below.refl _ _).alloc (Nat.le_refl _) _))
end
end Go.Proofs.Ytmdbpnpbohmofaa

/- Walked: Pop of a ring of texts. -/
import Derived.Test.YtmdbpnpbohmofaaWalkSA
namespace Go.Proofs.Ytmdbpnpbohmofaa
open Go.RowKit M Go.Conc
set_option linter.unusedVariables false
theorem popS_nil (w : World) : Calls Try.prog 18 #[.pointer none] w fun e w' => e = .returned (.tuple #[.string ⟨#[]⟩, .bool false]) ∧ w = w' := by
  go_enter Try.func18, Try.ntmps18
  go_wp2_with (go_at_call 21; (with_reducible refine (lenS_nil _).mono ?_); rintro e w' ⟨rfl, rfl⟩)
  go_ret2
  exact ⟨rfl, rfl⟩
theorem popS_none {w : World} {F : Nat → Prop} {b n m : Nat} {xs : List Value} (h : Ring 81 9 1 w F b n m xs) (hm : m = 0) :
    Calls Try.prog 18 #[.pointer (some ⟨b, 0, none⟩)] w fun e w' => e = .returned (.tuple #[.string ⟨#[]⟩, .bool false]) ∧ w = w' := by
  subst hm
  have HL := Lib.hid (lenS_any h)
  clear h
  go_enter Try.func18, Try.ntmps18
  go_wp2_with (go_at_call 21; (with_reducible refine HL.out.mono ?_); rintro e w' ⟨rfl, rfl⟩)
  go_ret2
  exact ⟨rfl, rfl⟩
theorem popS_some {w : World} {F : Nat → Prop} {b n m : Nat} {x : ByteArray} {xs : List Value} (h : Ring 81 9 1 w F b n (m + 1) (.string x :: xs)) (hx : ∀ u ∈ xs, u.oneCell' = true) :
    Calls Try.prog 18 #[.pointer (some ⟨b, 0, none⟩)] w fun e w' => e = .returned (.tuple #[.string x, .bool true]) ∧ Hid (∃ F', Turn w w' F F' ∧ Ring 81 9 1 w' F' b n m xs) := by
  have HL := Lib.hid (lenS_any h)
  have HX := Lib.hid hx
  clear hx
  obtain ⟨c, f, s, r, v, buf, pre, h1, h2, h3, h4, h5, h6, h7, h8, h9, h10, h11, h12, h13⟩ := h
  obtain ⟨g, cap, rfl⟩ : ∃ g cap, v = .slice (some ⟨g, 0, none⟩) (f + (m + 1)) cap := by
    obtain ⟨_, ⟨_, q⟩ | ⟨g, cap, _, q, _⟩⟩ := h7
    · omega
    · exact ⟨g, cap, q⟩
  obtain ⟨L, hL⟩ : ∃ L, f + (m + 1) = L := ⟨_, rfl⟩
  rw [hL] at h1 h7 h12
  have l1 : f < L := by omega
  have l2 : (f : Int) < (L : Int) := by omega
  have l3 : (f : Int) ≤ 1048576 := by omega
  have l4 : (0 : Int) ≤ (f : Int) := by omega
  have l5 : (L : Int) ≤ 2097152 := by omega
  have hL1 := Lib.hid hL
  have hcp : (L : Int) ≤ (cap : Int) := by
    obtain ⟨_, ⟨q, _⟩ | ⟨g', cap', cur, q, _, _, q2, _⟩⟩ := h7
    · simp at q
    · simp at q; omega
  clear hL
  have hc0 : w.cell? ⟨b, 0, none⟩ = some (.chan (some c)) := cell_at h1 0
  have HB := Lib.hid h3
  have H1 := Lib.hid h1
  have H2 := Lib.hid h2
  have H4 := Lib.hid h4
  have H5 := Lib.hid h5
  have H6 := Lib.hid h6
  have H7 := Lib.hid h7
  have H8 := Lib.hid h8
  have H9 := Lib.hid h9
  have H10 := Lib.hid h10
  have H11 := Lib.hid h11
  have H12 := Lib.hid h12
  have H13 := Lib.hid h13
  have hm1 : ((m : Int) + 1 == 0) = false := by simp; omega
  clear h1 h2 h3 h4 h5 h6 h7 h8 h9 h10 h11 h12 h13
  refine calls_of_reaches Try.func18 rfl ?_
  simp only [Try.ntmps18, List.size_toArray, List.length_cons, List.length_nil, Nat.reduceAdd, Nat.reduceSub, Array.replicate_succ, Array.replicate_zero, List.push_toArray, List.append_toArray, List.nil_append, List.cons_append]
  refine Reaches.seq_wp fun K hK => ?_
  go_wp2
  refine Reaches.seq_wp fun K hK => ?_
  go_wp2_with (go_at_call 21; (with_reducible refine HL.out.mono ?_); rintro e w' ⟨rfl, rfl⟩)
  clear HL hm1
  refine Reaches.seq fun K hK => Reaches.region ?_
  change OpsReach _ _ _ [0, 1, 2, 3, 4] _ _
  refine OpsReach.value (v := .pointer (some ⟨b, 0, none⟩)) (w' := w) rfl rfl (by simp [execOp, go_sem]) ?_
  refine OpsReach.value (v := .pointer (some ⟨b, 0, none⟩)) (w' := w) rfl rfl (by simp [execOp, go_sem]) ?_
  refine OpsReach.value (v := .pointer (some ⟨b, 0, none⟩)) (w' := w) rfl rfl (by simp [execOp, go_sem]) ?_
  refine OpsReach.value (v := .chan (some c)) (w' := w) rfl rfl (by simp [execOp, go_sem, hc0]) ?_
  refine OpsReach.recv (z := .agg #[]) rfl rfl (by simp [execOp, go_sem, rcase]) H2.out (by rw [HB.out]; omega) ?_
  refine OpsReach.of_wpOps ?_
  obtain ⟨W, hW⟩ : ∃ W, w.setChan c n (buf.extract 1 buf.size) false s (r + 1) false = W := ⟨_, rfl⟩
  rw [hW]
  have HW := Lib.hid hW
  clear hW hc0
  obtain ⟨u, hu⟩ : ∃ u, buf.getD 0 undef = u := ⟨_, rfl⟩
  rw [hu]
  clear hu
  simp only [wpOps]
  go_wp2
  go_simp
  have hWb : W.heap[b]? = some (.cells #[.chan (some c), .slice (some ⟨g, 0, none⟩) L cap, .int .i64 f] 81 (0, 0)) := by rw [← HW.out, setChan_heap H9.out]; exact H1.out
  have hO : W.ownsRow 0 9 1 (.slice (some ⟨g, 0, none⟩) L cap) L (pre ++ .string x :: xs) := owns_of H7.out fun g hg => by rw [← HW.out, setChan_heap (H12.out g hg).2.2]
  have hg1 : W.cell? ⟨g, f, none⟩ = some (.string x) := by
    rw [hO.cellAt f (by omega), List.getElem?_append_right (by rw [H8.out]; omega), H8.out]; simp
  have hgf : W.frozen? ⟨g, f, none⟩ = false := hO.frozenAt f
  have hb1 : W.cell? ⟨b, 1, none⟩ = some (.slice (some ⟨g, 0, none⟩) L cap) := cell_at hWb 1
  have hb2 : W.cell? ⟨b, 2, none⟩ = some (.int .i64 f) := cell_at hWb 2
  have hf2 : W.frozen? ⟨b, 2, none⟩ = false := free_at hWb 2
  have hf1 : W.frozen? ⟨b, 1, none⟩ = false := free_at hWb 1
  have hgb : g ≠ b := (H12.out g rfl).2.1
  have hbg : b ≠ g := fun e => hgb e.symm
  have HWb := Lib.hid hWb
  have HO := Lib.hid hO
  clear hWb hO
  refine Reaches.of_wp ?_
  go_wp2
  go_still_tail 20, (by kernel_rfl)
  change wpList _ _ _ _ _ W.drew
  go_wp2
  have HQ := Lib.hid (mid_of (z := .string ⟨#[]⟩) H1.out HB.out H7.out (by rw [H8.out, Nat.mul_one]) H9.out H10.out H11.out H12.out H13.out HW.out).drew
  generalize ((W.setCell ⟨g, f, none⟩ (.string ⟨#[]⟩)).setCell ⟨b, 2, none⟩ (.int .i64 ((f : Int) + 1))).drew = V at HQ ⊢
  clear hg1 hgf hb1 hb2 hf1 hf2 HWb HO
  have hb1 : V.cell? ⟨b, 1, none⟩ = some (.slice (some ⟨g, 0, none⟩) L cap) := cell_at HQ.out.2.2.2.2.2.1 1
  have hb2 : V.cell? ⟨b, 2, none⟩ = some (.int .i64 ((f : Int) + 1)) := cell_at HQ.out.2.2.2.2.2.1 2
  have hf1 : V.frozen? ⟨b, 1, none⟩ = false := free_at HQ.out.2.2.2.2.2.1 1
  have hf2 : V.frozen? ⟨b, 2, none⟩ = false := free_at HQ.out.2.2.2.2.2.1 2
  have hw2 : IntKind.i64.wrap (2 * ((f : Int) + 1)) = 2 * ((f : Int) + 1) := IntWalk.i64_in _ (by omega)
  by_cases hcmp : f + 1 ≤ m
  · have hd : decide ((L : Int) < 2 * ((f : Int) + 1)) = false := by have := hL1.out; simp; omega
    go_quiet (fail)
    go_wp2
    go_ret2
    refine ⟨rfl, Lib.hid ?_⟩
    exact Mid.left (HQ.out.drewN _) (by have := H4.out; omega) H5.out hcmp hL1.out (by rw [H8.out, Nat.mul_one]) H9.out H10.out H11.out H12.out H13.out
  · have hd : decide ((L : Int) < 2 * ((f : Int) + 1)) = true := by have := hL1.out; simp; omega
    go_quiet (fail)
    clear hw2 hd
    go_wp2
    have HQ2 := Lib.hid (HQ.out.drewN nq)
    clear HQ hb1 hb2 hf1 hf2 l1 l2 l3 l4 l5
    generalize V.drewN nq = V2 at HQ2 ⊢
    obtain ⟨k, hk⟩ : ∃ k, f + 1 = k := ⟨_, rfl⟩
    have hb1 : V2.cell? ⟨b, 1, none⟩ = some (.slice (some ⟨g, 0, none⟩) L cap) := cell_at HQ2.out.2.2.2.2.2.1 1
    have hb2 : V2.cell? ⟨b, 2, none⟩ = some (.int .i64 (k : Int)) := by rw [← hk]; exact cell_at HQ2.out.2.2.2.2.2.1 2
    have hf1 : V2.frozen? ⟨b, 1, none⟩ = false := free_at HQ2.out.2.2.2.2.2.1 1
    have hf2 : V2.frozen? ⟨b, 2, none⟩ = false := free_at HQ2.out.2.2.2.2.2.1 2
    have k1 : (0 : Int) ≤ (k : Int) := by omega
    have k2 : (k : Int) ≤ (L : Int) := by have := hL1.out; omega
    have k3 : (L : Int) ≤ (cap : Int) := hcp
    have k4 : m ≤ 2097152 := by have := H4.out; have := H5.out; omega
    obtain ⟨i0, hi, hz0, hz1, hz2⟩ := info_parts info9
    have HP : Hid (∀ ad cp, (cap = k → m = 0) → (cap ≠ k → ad = ⟨g, k, none⟩) → ∃ v' w6, (Builtin.append_ #[66, 66] 66 #[.slice none 0 0, .slice (some ad) (L - k) cp]).run Try.prog V2.drew = .ok v' w6 ∧ w6.ownsRow 0 9 1 v' m xs ∧ V2.drew.grownBy w6 none ∧ (v'.ownBlock = none ∨ v'.ownBlock = some V2.drew.heap.size)) := fun ad cp q1 q2 =>
      pack_run (pre := pre ++ [.string ⟨#[]⟩]) 66 66 Try.underlying66 hi hz0 hz1 hz2 rfl (by rw [List.append_assoc]; exact HQ2.out.2.2.2.2.2.2.2) (by simp [H8.out, ← hk]) (by have := hL1.out; omega) HX.out k4 (by decide) ad cp q1 q2
    clear hi hz0 hz1 hz2
    have HK := Lib.hid hk
    clear hk k4
    have HLt : Hid (b < V2.drew.heap.size) := lt_of_some HQ2.out.2.2.2.2.2.1
    by_cases hce : cap = k
    · obtain ⟨v', w6, hr, hown, hgrow, hat⟩ := HP.out ⟨g, 0, none⟩ 0 (fun _ => by have := hL1.out; have := HK.out; omega) (fun e => absurd hce e)
      obtain ⟨A6, c6, rfl⟩ := owns_form hown
      have hw6 : w6.heap[b]? = some (.cells #[.chan (some c), .slice (some ⟨g, 0, none⟩) L cap, .int .i64 (k : Int)] 81 (0, 0)) := by
        rw [hgrow.block b HLt.out (by simp), ← HK.out]; exact HQ2.out.2.2.2.2.2.1
      have d1 : w6.cell? ⟨b, 1, none⟩ = some (.slice (some ⟨g, 0, none⟩) L cap) := cell_at hw6 1
      have d2 : w6.cell? ⟨b, 2, none⟩ = some (.int .i64 (k : Int)) := cell_at hw6 2
      have d3 : w6.frozen? ⟨b, 1, none⟩ = false := free_at hw6 1
      have d4 : w6.frozen? ⟨b, 2, none⟩ = false := free_at hw6 2
      have HO := Lib.hid (And.intro hown (And.intro hgrow hat))
      clear hown hgrow hat hw6
      subst hce
      go_region_law ((refine step_run rfl (.slice A6 m c6) w6 (exec_append (by rfl) (by rfl) (by rfl) hr) ?_))
      all_goals
        clear hr d1
        go_wp2
        go_ret2
        refine ⟨rfl, Lib.hid ?_⟩
        exact HQ2.out.drew.packed (by have := H4.out; omega) H5.out H9.out H10.out H11.out H13.out HO.out.1 HO.out.2.1 HO.out.2.2
    · obtain ⟨v', w6, hr, hown, hgrow, hat⟩ := HP.out ⟨g, k, none⟩ (cap - k) (fun e => absurd e hce) (fun _ => rfl)
      obtain ⟨A6, c6, rfl⟩ := owns_form hown
      have hw6 : w6.heap[b]? = some (.cells #[.chan (some c), .slice (some ⟨g, 0, none⟩) L cap, .int .i64 (k : Int)] 81 (0, 0)) := by
        rw [hgrow.block b HLt.out (by simp), ← HK.out]; exact HQ2.out.2.2.2.2.2.1
      have d1 : w6.cell? ⟨b, 1, none⟩ = some (.slice (some ⟨g, 0, none⟩) L cap) := cell_at hw6 1
      have d2 : w6.cell? ⟨b, 2, none⟩ = some (.int .i64 (k : Int)) := cell_at hw6 2
      have d3 : w6.frozen? ⟨b, 1, none⟩ = false := free_at hw6 1
      have d4 : w6.frozen? ⟨b, 2, none⟩ = false := free_at hw6 2
      have HO := Lib.hid (And.intro hown (And.intro hgrow hat))
      clear hown hgrow hat hw6
      go_region_law ((refine step_run rfl (.slice A6 m c6) w6 (exec_append (by rfl) (by rfl) (by rfl) hr) ?_))
      all_goals
        clear hr d1
        go_wp2
        go_ret2
        refine ⟨rfl, Lib.hid ?_⟩
        exact HQ2.out.drew.packed (by have := H4.out; omega) H5.out H9.out H10.out H11.out H13.out HO.out.1 HO.out.2.1 HO.out.2.2
theorem popS_turn {w0 w : World} {F : Nat → Prop} {b n : Nat} {x : ByteArray} {xs : List Value} (q : Owns 81 9 w0 w F b n (.string x :: xs)) :
    Calls Try.prog 18 #[.pointer (some ⟨b, 0, none⟩)] w fun e w' => e = .returned (.tuple #[.string x, .bool true]) ∧ Hid (∃ F', Turn w w' F F' ∧ Owns 81 9 w0 w' F' b n xs) := by
  have hx : ∀ u ∈ xs, u.oneCell' = true := fun u hu => q.2.2.1 u (List.mem_cons_of_mem _ hu)
  exact (popS_some q.2.2.2 hx).mono fun _ _ ⟨he, hh⟩ => ⟨he, Lib.hid (q.turn hx rfl hh.out)⟩
theorem popS {w0 w : World} {b n : Nat} {x : ByteArray} {xs : List Value} (h : Holds 81 9 w0 w b n (.string x :: xs)) :
    Calls Try.prog 18 #[.pointer (some ⟨b, 0, none⟩)] w fun e w' => e = .returned (.tuple #[.string x, .bool true]) ∧ Hid (Holds 81 9 w0 w' b n xs) :=
  let ⟨_, q⟩ := h; (popS_turn q).mono fun _ _ ⟨he, hh⟩ => ⟨he, let ⟨F', _, o⟩ := hh.out; Lib.hid ⟨F', o⟩⟩
theorem popS_no {w0 w : World} {b n : Nat} (h : Holds 81 9 w0 w b n []) :
    Calls Try.prog 18 #[.pointer (some ⟨b, 0, none⟩)] w fun e w' => e = .returned (.tuple #[.string ⟨#[]⟩, .bool false]) ∧ w = w' := let ⟨_, q⟩ := h; popS_none q.2.2.2 rfl
end Go.Proofs.Ytmdbpnpbohmofaa

/- The reference's ring of texts in memory, and what each call makes of it. -/
import Derived.Test.YtmdbpnpbohmofaaWalkSA
import Derived.ArgAppend
namespace Go.Proofs.Ytmdbpnpbohmofaa
open Go.RowKit M Go.Conc
set_option linter.unusedVariables false

theorem wpList_run {P : Program} {ops : Array Oper} {rest : List Oper} {o : Oper} {a : Act} {w : World} {Q : Exit → Act → World → Prop} (hg : o.guard = none) (v' : Value) (w' : World)
    (hr : (execOp a.eval o).run P w = .ok (.value v') w') (h : wpList P ops Q rest (a.put o.dst v') w') : wpList P ops Q (o :: rest) a w :=
  wpList_plain hg fun K hK => by
    unfold Oper.wp
    rw [hr]
    exact hK _ _ h
/-- The slice v holds the texts l, from some place of its block on. -/
def RefL (w : World) (v : Value) (l : List ByteArray) : Prop :=
  (v = .slice none 0 0 ∧ l = []) ∨ ∃ g off cap cur, v = .slice (some ⟨g, off, none⟩) l.length cap ∧ w.heap[g]? = some (.cells cur 9 (0, 0)) ∧ l.length ≤ cap ∧ cap ≤ maxLen ∧ off + cap ≤ cur.size ∧
    ∀ (i : Nat) (s : ByteArray), l[i]? = some s → cur[off + i]? = some (.string s)
section
variable {w w' : World} {v : Value} {l : List ByteArray}
theorem RefL.form (h : RefL w v l) : ∃ A cap, v = .slice A l.length cap := by
  rcases h with ⟨rfl, rfl⟩ | ⟨g, off, cap, cur, rfl, _⟩
  · exact ⟨_, _, rfl⟩
  · exact ⟨_, _, rfl⟩
theorem RefL.kept (h : RefL w v l) (hk : ∀ g, v.ownBlock = some g → w'.heap[g]? = w.heap[g]?) : RefL w' v l := by
  rcases h with h | ⟨g, off, cap, cur, rfl, q1, q2⟩
  · exact .inl h
  · exact .inr ⟨g, off, cap, cur, rfl, by rw [hk g rfl]; exact q1, q2⟩
theorem refL_of_owns {base : Nat} (h : w.ownsRow base 9 1 v l.length (l.map Value.string)) : RefL w v l := by
  obtain ⟨_, ⟨rfl, h0⟩ | ⟨g, cap, cur, rfl, _, q1, q2, q3, q4, q5⟩⟩ := h
  · exact .inl ⟨rfl, List.eq_nil_of_length_eq_zero h0⟩
  · refine .inr ⟨g, 0, cap, cur, rfl, q1, q2, q3, by omega, fun i s hs => ?_⟩
    have hi : i < l.length := (List.getElem?_eq_some_iff.1 hs).1
    have : (l.map Value.string)[i]? = some (.string s) := by rw [List.getElem?_map, hs]; rfl
    rw [← q5, List.getElem?_take, if_pos (by omega)] at this
    simpa using this
theorem RefL.lt (h : RefL w v l) : ∀ g, v.ownBlock = some g → g < w.heap.size := by
  intro g hg
  rcases h with ⟨rfl, _⟩ | ⟨g', off, cap, cur, rfl, q1, _⟩
  · simp [Value.ownBlock] at hg
  · simp [Value.ownBlock] at hg
    subst hg
    exact lt_of_some q1
theorem RefL.append (h : RefL w v l) (hl : l.length ≤ 2097152) (x : ByteArray) (ad : Addr) (hx : ∀ j u, [Value.string x][j]? = some u → w.cell? (ad.add j) = some u) :
    ∃ v' w', (Builtin.append_ #[66, 66] 66 #[v, .slice (some ad) 1 1]).run Try.prog w = .ok v' w' ∧ RefL w' v' (l ++ [x]) ∧ w.grownBy w' v.ownBlock ∧ (v'.ownBlock = v.ownBlock ∨ ∀ g, v'.ownBlock = some g → w.heap.size ≤ g) := by
  obtain ⟨i0, hi, hz0, hz1, hz2⟩ := info_parts info9
  have h1 : ∀ u ∈ [Value.string x], u.oneCell' = true := fun u hu => by simp at hu; subst hu; rfl
  rcases h with ⟨rfl, rfl⟩ | ⟨g, off, cap, cur, rfl, q1, q2, q3, q4, q5⟩
  · obtain ⟨v', w', hr, hown, hgrow, _, hat⟩ := run_append_own_at (P := Try.prog) w 0 66 66 9 i0 (.string ⟨#[]⟩) 1 16 Try.underlying66 hi hz0 hz1 hz2 rfl (by decide) (.slice none 0 0) 0 [] (World.ownsRow_nil _ _ _ _) ad 1 1 [.string x] rfl hx h1 (by simp only [maxLen]; omega) (by omega) (Nat.zero_le _)
    refine ⟨v', w', hr, refL_of_owns (l := [x]) hown, hgrow, ?_⟩
    rcases hat with e | e
    · exact .inl e
    · right; intro g hg; rw [e] at hg; cases hg; exact Nat.le_refl _
  · by_cases hroom : l.length + 1 ≤ cap
    · have hr := run_append_room_cells (P := Try.prog) w 66 66 9 i0 Try.underlying66 hi g off l.length cap ad 1 1 [.string x] (by rw [hz1]; rfl) hx h1 hroom
        (fun j hj => by
          simp at hj
          subst hj
          rw [cell_at q1, hz1, Nat.mul_one, Nat.add_zero, Array.getElem?_eq_getElem (by omega)]
          rfl) (fun j hj => free_at q1 _)
      rw [hz1, Nat.mul_one] at hr
      have hset : w.setCells g (off + l.length) [.string x] = w.setCell ⟨g, off + l.length, none⟩ (.string x) := by simp [World.setCells]
      rw [hset] at hr
      refine ⟨_, _, hr, .inr ⟨g, off, cap, cur.setIfInBounds (off + l.length) (.string x), by simp, heap_setCell_same w g _ cur 9 _ q1, by simpa using hroom, q3, by simpa using q4, fun i s hs => ?_⟩, grown_set, .inl rfl⟩
      rw [List.getElem?_append] at hs
      by_cases hi : i < l.length
      · rw [if_pos hi] at hs
        rw [Array.getElem?_setIfInBounds_ne (by omega)]
        exact q5 i s hs
      · rw [if_neg hi] at hs
        have hi0 : i - l.length = 0 := by
          have := (List.getElem?_eq_some_iff.1 hs).1
          simp at this; omega
        rw [hi0] at hs
        simp at hs
        subst hs
        rw [show off + i = off + l.length by omega, Array.getElem?_setIfInBounds_self_of_lt (by omega)]
    · obtain ⟨v', w', hr, hown, hgrow⟩ := run_append_arg_grows (P := Try.prog) w 66 66 9 i0 (.string ⟨#[]⟩) 1 16 Try.underlying66 hi hz0 hz1 hz2 rfl (by decide) ⟨g, off, none⟩ l.length cap (l.map Value.string) (by simp)
        (fun j u hu => by
          rw [List.getElem?_map] at hu
          obtain ⟨s, hs, rfl⟩ := Option.map_eq_some_iff.1 hu
          have : (⟨g, off, none⟩ : Addr).add j = ⟨g, off + j, none⟩ := by
            unfold Addr.add
            split
            · rename_i h0; subst h0; rfl
            · rfl
          rw [this, cell_at q1]
          exact q5 j s hs) ad 1 1 [.string x] rfl hx (by omega) (by simp only [maxLen]; omega) (by omega)
      refine ⟨v', w', hr, refL_of_owns (l := l ++ [x]) (by simpa using hown), ⟨hgrow.os, hgrow.tape, hgrow.output, hgrow.size, fun k hk _ => hgrow.block k hk (by simp)⟩, .inr fun g hg => (hown.lt g hg).1⟩
/-- Where the first is let go. -/
theorem RefL.tail {x : ByteArray} (h : RefL w v (x :: l)) : ∃ g off cap, v = .slice (some ⟨g, off, none⟩) (l.length + 1) cap ∧ w.cell? ⟨g, off, none⟩ = some (.string x) ∧ l.length + 1 ≤ cap ∧
    RefL w (.slice (some ⟨g, if cap = 1 then off else off + 1, none⟩) l.length (cap - 1)) l := by
  rcases h with ⟨_, h⟩ | ⟨g, off, cap, cur, rfl, q1, q2, q3, q4, q5⟩
  · cases h
  · have q2' : l.length + 1 ≤ cap := by simpa using q2
    refine ⟨g, off, cap, by simp, by rw [cell_at q1]; exact q5 0 x rfl, q2', .inr ⟨g, _, cap - 1, cur, rfl, q1, by omega, by omega, by split <;> omega, fun i s hs => ?_⟩⟩
    have hi := (List.getElem?_eq_some_iff.1 hs).1
    rw [if_neg (by omega), Nat.add_assoc, Nat.add_comm 1 i]
    exact q5 (i + 1) s (by simpa using hs)
theorem RefL.cell (h : RefL w v l) {i : Nat} {s : ByteArray} (hs : l[i]? = some s) : ∃ g off cap, v = .slice (some ⟨g, off, none⟩) l.length cap ∧ w.cell? ⟨g, off + i, none⟩ = some (.string s) := by
  rcases h with ⟨_, rfl⟩ | ⟨g, off, cap, cur, rfl, q1, q2, q3, q4, q5⟩
  · simp at hs
  · exact ⟨g, off, cap, rfl, by rw [cell_at q1]; exact q5 i s hs⟩
end
/-- The reference's ring at q: at most n texts; it owns the blocks G. -/
def Ref (w : World) (G : Nat → Prop) (q n : Nat) (v : Value) (l : List ByteArray) : Prop :=
  w.heap[q]? = some (.cells #[.int .i64 n, v] 68 (0, 0)) ∧ RefL w v l ∧ l.length ≤ n ∧ n ≤ 1048576 ∧ G q ∧ (∀ g, v.ownBlock = some g → G g ∧ g ≠ q) ∧ ∀ k, G k → k < w.heap.size
section
variable {w w' : World} {G G' F F' : Nat → Prop} {q n : Nat} {v : Value} {l : List ByteArray}
theorem Ref.kept (h : Ref w G q n v l) (hs : w.heap.size ≤ w'.heap.size) (hk : ∀ k, G k → w'.heap[k]? = w.heap[k]?) : Ref w' G q n v l :=
  let ⟨q1, q2, q3, q4, q5, q6, q7⟩ := h
  ⟨by rw [hk q q5]; exact q1, q2.kept fun g hg => hk g (q6 g hg).1, q3, q4, q5, q6, fun k hk => Nat.lt_of_lt_of_le (q7 k hk) hs⟩
theorem Ref.drewN (h : Ref w G q n v l) (k : Nat) : Ref (w.drewN k) G q n v l := h
theorem Ref.drew (h : Ref w G q n v l) : Ref w.drew G q n v l := h
theorem Ref.other (h : Ref w G q n v l) (ht : Turn w w' F F') (hd : ∀ k, G k → ¬ F k) : Ref w' G q n v l := h.kept ht.size fun k hk => ht.block k (h.2.2.2.2.2.2 k hk) (hd k hk)
/-- The slice is laid anew. -/
theorem Ref.set {v' : Value} {l' : List ByteArray} (h : Ref w G q n v l) (ho : w'.os = w.os) (ht : w'.tape = w.tape) (hp : w'.output = w.output) (hs : w.heap.size ≤ w'.heap.size) (hk : ∀ k, k < w.heap.size → ¬ G k → w'.heap[k]? = w.heap[k]?)
    (hq : w'.heap[q]? = some (.cells #[.int .i64 n, v] 68 (0, 0))) (h2 : RefL w' v' l') (h3 : l'.length ≤ n) (h6 : ∀ g, v'.ownBlock = some g → (G g ∨ w.heap.size ≤ g) ∧ g ≠ q) :
    ∃ G', Turn w (w'.setCell ⟨q, 1, none⟩ v') G G' ∧ Ref (w'.setCell ⟨q, 1, none⟩ v') G' q n v' l' := by
  obtain ⟨q1, q2, q3, q4, q5, q6, q7⟩ := h
  have hsz : (w'.setCell ⟨q, 1, none⟩ v').heap.size = w'.heap.size := by simp [World.setCell]
  refine ⟨More w (w'.setCell ⟨q, 1, none⟩ v') G, ⟨ho, ht, hp, by rw [hsz]; exact hs, fun k hk' hG => ?_, fun k hk => hk.elim .inl (fun h => .inr h.1)⟩, ?_, ?_, h3, q4, .inl q5, fun g hg => ?_, fun k hk => ?_⟩
  · rw [heap_setCell_other _ _ _ _ (fun e => hG (by rw [e]; exact q5))]; exact hk k hk' hG
  · rw [heap_setCell_same _ q 1 _ 68 _ hq]; simp
  · exact h2.kept fun g hg => heap_setCell_other _ _ _ _ (h6 g hg).2
  · refine ⟨(h6 g hg).1.elim .inl fun z => .inr ⟨z, by rw [hsz]; exact h2.lt g hg⟩, (h6 g hg).2⟩
  · exact hk.elim (fun h => by rw [hsz]; exact Nat.lt_of_lt_of_le (q7 k h) hs) (fun h => h.2)

theorem refNew_good (n : Nat) (i : Int) (hi : i = n) (w : World) (h : 1 ≤ (n : Int)) (h' : (n : Int) ≤ 1048576) :
    Calls Try.prog 31 #[.int .i64 i] w fun e w' => e = .returned (.tuple #[.pointer (some ⟨w.heap.size, 0, none⟩), .int .i64 0]) ∧ Hid (w' = w.alloc (.cells #[.int .i64 n, .slice none 0 0] 68)) := by
  subst hi
  have h1 : ¬ (n : Int) < 1 := by omega
  have h2 : ¬ 1048576 < (n : Int) := by omega
  go_enter Try.func31, Try.ntmps31
  go_wp2
  go_ret2
  exact ⟨rfl, Lib.hid rfl⟩
theorem refNew_bad (n : Int) (w : World) (h : ¬ (1 ≤ n ∧ n ≤ 1048576)) :
    Calls Try.prog 31 #[.int .i64 n] w fun e w' => e = .returned (.tuple #[.pointer none, .int .i64 1]) ∧ w = w' := by
  have h' : n < 1 ∨ (¬ n < 1 ∧ 1048576 < n) := by omega
  clear h
  rcases h' with h | ⟨h, h2⟩
  all_goals
    go_enter Try.func31, Try.ntmps31
    go_wp2
    go_ret2
    exact ⟨rfl, rfl⟩
theorem refPush_full (h : Ref w G q n v l) (hm : l.length = n) (x : ByteArray) :
    Calls Try.prog 32 #[.pointer (some ⟨q, 0, none⟩), .string x] w fun e w' => e = .returned (.bool false) ∧ ∃ k, w' = w.drewN k := by
  obtain ⟨q1, q2, q3, q4, q5, q6, q7⟩ := h
  obtain ⟨A, cap, rfl⟩ := q2.form
  have h0 : w.cell? ⟨q, 0, none⟩ = some (.int .i64 n) := cell_at q1 0
  have h1 : w.cell? ⟨q, 1, none⟩ = some (.slice A n cap) := by rw [← hm]; rw [← hm] at q1; exact cell_at q1 1
  have hd : ((n : Int) == (n : Int)) = true := by simp
  clear q1 q2 q3 q4 q5 q6 q7 hm
  go_enter Try.func32, Try.ntmps32
  go_wp2
  go_quiet (fail)
  go_wp2
  go_ret
  exact ⟨rfl, _, rfl⟩
theorem refPush_ok (h : Ref w G q n v l) (hm : l.length < n) (x : ByteArray) :
    Calls Try.prog 32 #[.pointer (some ⟨q, 0, none⟩), .string x] w fun e w' => e = .returned (.bool true) ∧ Hid (∃ v' G', Turn w w' G G' ∧ Ref w' G' q n v' (l ++ [x])) := by
  have HR := Lib.hid h
  obtain ⟨q1, q2, q3, q4, q5, q6, q7⟩ := h
  obtain ⟨A, cap, rfl⟩ := q2.form
  have h0 : w.cell? ⟨q, 0, none⟩ = some (.int .i64 n) := cell_at q1 0
  have h1 : w.cell? ⟨q, 1, none⟩ = some (.slice A l.length cap) := cell_at q1 1
  have hd : ((l.length : Int) == (n : Int)) = false := by simp; omega
  have hd2 : (l.length == n) = false := by simp; omega
  have HM := Lib.hid hm
  clear q1 q2 q3 q4 q5 q6 q7 hm
  go_enter Try.func32, Try.ntmps32
  go_wp2
  go_quiet (fail)
  clear h0 hd hd2
  have HR2 := Lib.hid (HR.out.drewN nq)
  have HT : Hid (Turn w (w.drewN nq) G G) := (Turn.refl w G).drewN nq
  clear HR
  generalize w.drewN nq = W at HR2 HT ⊢
  have h1 : W.cell? ⟨q, 1, none⟩ = some (.slice A l.length cap) := cell_at HR2.out.1 1
  obtain ⟨v', w3, hr, hl, hgrow, hat⟩ := (HR2.out.2.1.kept (w' := W.alloc (.cells #[.string x] 9)) fun g hg => heap_alloc_old _ _ (HR2.out.2.1.lt g hg)).append (by have := HM.out; have := HR2.out.2.2.2.1; omega) x ⟨W.heap.size, 0, none⟩ (cell_one_new _ _ _)
  obtain ⟨A', cap', hv'⟩ := hl.form
  obtain ⟨m', hm'⟩ : ∃ m', (l ++ [x]).length = m' := ⟨_, rfl⟩
  rw [hm'] at hv'
  subst hv'
  have hw3 : w3.heap[q]? = some (.cells #[.int .i64 n, .slice A l.length cap] 68 (0, 0)) := by
    rw [hgrow.block q (by have := HR2.out.2.2.2.2.2.2 q HR2.out.2.2.2.2.1; simp; omega) (fun e => (HR2.out.2.2.2.2.2.1 q e.symm).2 rfl), heap_alloc_old _ _ (lt_of_some HR2.out.1)]; exact HR2.out.1
  have h3 : w3.cell? ⟨q, 1, none⟩ = some (.slice A l.length cap) := cell_at hw3 1
  have hf3 : w3.frozen? ⟨q, 1, none⟩ = false := free_at hw3 1
  have HE := Lib.hid (And.intro hl (And.intro hgrow (And.intro hat hw3)))
  clear hl hgrow hat hw3 hm'
  go_wp2_with (at_builtin; refine wpList_run rfl (.slice A' m' cap') w3 (exec_append (by rfl) (by rfl) (by rfl) hr) ?_)
  go_ret
  refine ⟨rfl, Lib.hid ?_⟩
  obtain ⟨e1, e2, e3, e4⟩ := HE.out
  have hsz : (W.alloc (.cells #[.string x] 9)).heap.size = W.heap.size + 1 := by simp
  have hgs := e2.size
  obtain ⟨G', t, r⟩ := HR2.out.set (w' := w3) e2.os e2.tape e2.output (by omega) (fun k hk hG => by rw [e2.block k (by omega) (fun e => hG (HR2.out.2.2.2.2.2.1 k e.symm).1), heap_alloc_old _ _ hk]) e4 e1 (by rw [List.length_append]; exact HM.out)
    (fun g hg => by
      rcases e3 with e | e
      · rw [e] at hg; have := HR2.out.2.2.2.2.2.1 g hg; exact ⟨.inl this.1, this.2⟩
      · have := e g hg
        have := HR2.out.2.2.2.2.2.2 q HR2.out.2.2.2.2.1
        exact ⟨.inr (by omega), by omega⟩)
  exact ⟨_, G', HT.out.trans t, r⟩
theorem refPop_none (h : Ref w G q n v []) : Calls Try.prog 33 #[.pointer (some ⟨q, 0, none⟩)] w fun e w' => e = .returned (.tuple #[.string ⟨#[]⟩, .bool false]) ∧ w = w' := by
  obtain ⟨A, cap, rfl⟩ := h.2.1.form
  have h1 : w.cell? ⟨q, 1, none⟩ = some (.slice A 0 cap) := cell_at h.1 1
  clear h
  go_enter Try.func33, Try.ntmps33
  go_wp2
  go_ret2
  exact ⟨rfl, rfl⟩
theorem refPop_some {x : ByteArray} (h : Ref w G q n v (x :: l)) : Calls Try.prog 33 #[.pointer (some ⟨q, 0, none⟩)] w fun e w' => e = .returned (.tuple #[.string x, .bool true]) ∧ Hid (∃ v' G', Turn w w' G G' ∧ Ref w' G' q n v' l) := by
  obtain ⟨g, off, cap, rfl, hc, hcap, ht⟩ := h.2.1.tail
  have h1 : w.cell? ⟨q, 1, none⟩ = some (.slice (some ⟨g, off, none⟩) (l.length + 1) cap) := cell_at h.1 1
  have hf : w.frozen? ⟨q, 1, none⟩ = false := free_at h.1 1
  have hl : l.length ≤ n := by have := h.2.2.1; simp at this; omega
  have HE : Hid (∀ v', v' = Value.slice (some ⟨g, if cap = 1 then off else off + 1, none⟩) l.length (cap - 1) → ∃ v' G', Turn w (w.setCell ⟨q, 1, none⟩ (Value.slice (some ⟨g, if cap = 1 then off else off + 1, none⟩) l.length (cap - 1))) G G' ∧ Ref (w.setCell ⟨q, 1, none⟩ (Value.slice (some ⟨g, if cap = 1 then off else off + 1, none⟩) l.length (cap - 1))) G' q n v' l) := fun v' _ => by
    obtain ⟨G', t, r⟩ := h.set rfl rfl rfl (Nat.le_refl _) (fun _ _ _ => rfl) h.1 ht hl (fun g' hg' => by
      have := h.2.2.2.2.2.1 g rfl
      simp [Value.ownBlock] at hg'
      subst hg'
      exact ⟨.inl this.1, this.2⟩)
    exact ⟨_, G', t, r⟩
  have k1 : (1 : Int) ≤ (l.length : Int) + 1 := by omega
  have k2 : (l.length : Int) + 1 ≤ (cap : Int) := by omega
  have k3 : ((l.length : Int) + 1 == 0) = false := by simp; omega
  have k4 : (0 : Int) < (l.length : Int) + 1 := by omega
  clear h ht hl hcap
  by_cases hce : cap = 1
  · subst hce
    go_enter Try.func33, Try.ntmps33
    go_wp2
    go_ret2
    exact ⟨rfl, HE.out _ rfl⟩
  · go_enter Try.func33, Try.ntmps33
    go_wp2
    go_ret2
    have := HE.out _ rfl
    simp only [if_neg hce] at this
    exact ⟨rfl, Lib.hid this⟩
theorem refAt_none (h : Ref w G q n v l) (i : Int) (hi : i < 0 ∨ (l.length : Int) ≤ i) : Calls Try.prog 34 #[.pointer (some ⟨q, 0, none⟩), .int .i64 i] w fun e w' => e = .returned (.tuple #[.string ⟨#[]⟩, .bool false]) ∧ w = w' := by
  obtain ⟨A, cap, rfl⟩ := h.2.1.form
  have h1 : w.cell? ⟨q, 1, none⟩ = some (.slice A l.length cap) := cell_at h.1 1
  have hi' : i < 0 ∨ (¬ i < 0 ∧ (l.length : Int) ≤ i) := by omega
  clear h hi
  rcases hi' with h | ⟨h, h2⟩
  all_goals
    go_enter Try.func34, Try.ntmps34
    go_wp2
    go_ret2
    exact ⟨rfl, rfl⟩
theorem refAt_some (h : Ref w G q n v l) (i : Nat) (x : ByteArray) (hx : l[i]? = some x) : Calls Try.prog 34 #[.pointer (some ⟨q, 0, none⟩), .int .i64 i] w fun e w' => e = .returned (.tuple #[.string x, .bool true]) ∧ w = w' := by
  obtain ⟨g, off, cap, rfl, hc⟩ := h.2.1.cell hx
  have h1 : w.cell? ⟨q, 1, none⟩ = some (.slice (some ⟨g, off, none⟩) l.length cap) := cell_at h.1 1
  have hi : i < l.length := (List.getElem?_eq_some_iff.1 hx).1
  have i1 : ¬ (i : Int) < 0 := by omega
  have i2 : ¬ (l.length : Int) ≤ (i : Int) := by omega
  have i3 : (i : Int) < (l.length : Int) := by omega
  have i4 : (0 : Int) ≤ (i : Int) := by omega
  have hd1 : decide ((l.length : Int) ≤ (i : Int)) = false := by simp; omega
  have hd2 : decide (l.length ≤ i) = false := by simp; omega
  clear h hx hi
  go_enter Try.func34, Try.ntmps34
  go_wp2
  go_ret2
  exact ⟨rfl, rfl⟩
end
end Go.Proofs.Ytmdbpnpbohmofaa

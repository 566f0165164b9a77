/- The ring of texts beside the reference's: what each call makes of both. -/
import Derived.Test.YtmdbpnpbohmofaaRef
import Derived.Test.YtmdbpnpbohmofaaWalkSB
import Derived.Test.YtmdbpnpbohmofaaWalkSD
namespace Go.Proofs.Ytmdbpnpbohmofaa
open Go.RowKit M Go.Conc
/-- The ring at b holds xs, the reference's at q holds ys; they share no block, and nothing older than w0 was turned. -/
def Both (w0 w : World) (b q n : Nat) (xs ys : List ByteArray) : Prop :=
  ∃ F G v, Owns 81 9 w0 w F b n (xs.map Value.string) ∧ Ref w G q n v ys ∧ (∀ k, G k → w0.heap.size ≤ k) ∧ ∀ k, F k → ¬ G k
section
variable {w0 w w' : World} {b q n : Nat} {xs ys zs : List ByteArray}
theorem Both.holds (h : Both w0 w b q n xs ys) : Holds 81 9 w0 w b n (xs.map Value.string) := let ⟨F, _, _, p, _⟩ := h; ⟨F, p⟩
theorem Both.below (h : Both w0 w b q n xs ys) : Below w0.heap.size w0 w := h.holds.below
theorem Both.drewN (h : Both w0 w b q n xs ys) (k : Nat) : Both w0 (w.drewN k) b q n xs ys := let ⟨F, G, v, p, r, z, d⟩ := h; ⟨F, G, v, p.drewN k, r.drewN k, z, d⟩
theorem Both.drew (h : Both w0 w b q n xs ys) : Both w0 w.drew b q n xs ys := h.drewN 1
theorem Both.bound (h : Both w0 w b q n xs ys) : xs.length ≤ n ∧ n ≤ 1048576 := by have := h.holds.bound; rwa [List.length_map] at this
theorem Both.turnA {F G : Nat → Prop} {v : Value} (hr : Ref w G q n v ys) (hz : ∀ k, G k → w0.heap.size ≤ k) (hd : ∀ k, F k → ¬ G k) (ht : ∃ F', Turn w w' F F' ∧ Owns 81 9 w0 w' F' b n (zs.map Value.string)) : Both w0 w' b q n zs ys := by
  obtain ⟨F', t, o⟩ := ht
  refine ⟨F', G, v, o, hr.other t fun k hk hf => hd k hf hk, hz, fun k hk hg => ?_⟩
  rcases t.foot k hk with z | z
  · exact hd k z hg
  · have := hr.2.2.2.2.2.2 k hg; omega
theorem Both.turnB {F G : Nat → Prop} (ho : Owns 81 9 w0 w F b n (xs.map Value.string)) (hz : ∀ k, G k → w0.heap.size ≤ k) (hd : ∀ k, F k → ¬ G k) (ht : ∃ v' G', Turn w w' G G' ∧ Ref w' G' q n v' zs) : Both w0 w' b q n xs zs := by
  obtain ⟨v', G', t, r⟩ := ht
  have hB := t.below hz ho.1.size
  refine ⟨F, G', v', ⟨ho.1.trans hB, ho.2.1, ho.2.2.1, ho.2.2.2.other t hd⟩, r, fun k hk => ?_, fun k hf hk => ?_⟩
  · exact (t.foot k hk).elim (hz k) fun z => Nat.le_trans ho.1.size z
  · exact (t.foot k hk).elim (hd k hf) fun z => by have := ho.2.2.2.lt k hf; omega
theorem pushA (h : Both w0 w b q n xs ys) (hm : xs.length < n) (x : ByteArray) :
    Calls Try.prog 20 #[.pointer (some ⟨b, 0, none⟩), .string x] w fun e w' => e = .returned (.bool true) ∧ Hid (Both w0 w' b q n (xs ++ [x]) ys) := by
  obtain ⟨F, G, v, p, r, z, d⟩ := h
  exact (pushS_turn p (by rw [List.length_map]; exact hm) x).mono fun _ _ ⟨he, hh⟩ => ⟨he, Lib.hid (Both.turnA (zs := xs ++ [x]) r z d (by rw [List.map_append]; exact hh.out))⟩
theorem pushA_no (h : Both w0 w b q n xs ys) (hm : xs.length = n) (x : ByteArray) :
    Calls Try.prog 20 #[.pointer (some ⟨b, 0, none⟩), .string x] w fun e w' => e = .returned (.bool false) ∧ Hid (Both w0 w' b q n xs ys) :=
  (pushS_no h.holds (by rw [List.length_map]; exact hm) x).mono fun _ _ ⟨he, hh⟩ => ⟨he, by subst hh; exact Lib.hid h⟩
theorem pushB (h : Both w0 w b q n xs ys) (hm : ys.length < n) (x : ByteArray) :
    Calls Try.prog 32 #[.pointer (some ⟨q, 0, none⟩), .string x] w fun e w' => e = .returned (.bool true) ∧ Hid (Both w0 w' b q n xs (ys ++ [x])) := by
  obtain ⟨F, G, v, p, r, z, d⟩ := h
  exact (refPush_ok r hm x).mono fun _ _ ⟨he, hh⟩ => ⟨he, Lib.hid (Both.turnB p z d hh.out)⟩
theorem pushB_no (h : Both w0 w b q n xs ys) (hm : ys.length = n) (x : ByteArray) :
    Calls Try.prog 32 #[.pointer (some ⟨q, 0, none⟩), .string x] w fun e w' => e = .returned (.bool false) ∧ Hid (Both w0 w' b q n xs ys) :=
  (refPush_full h.choose_spec.choose_spec.choose_spec.2.1 hm x).mono fun _ _ ⟨he, k, hk⟩ => ⟨he, by subst hk; exact Lib.hid (h.drewN k)⟩
theorem popA {x : ByteArray} (h : Both w0 w b q n (x :: xs) ys) :
    Calls Try.prog 18 #[.pointer (some ⟨b, 0, none⟩)] w fun e w' => e = .returned (.tuple #[.string x, .bool true]) ∧ Hid (Both w0 w' b q n xs ys) := by
  obtain ⟨F, G, v, p, r, z, d⟩ := h
  exact (popS_turn (x := x) (xs := xs.map Value.string) p).mono fun _ _ ⟨he, hh⟩ => ⟨he, Lib.hid (Both.turnA r z d hh.out)⟩
theorem popA_no (h : Both w0 w b q n [] ys) :
    Calls Try.prog 18 #[.pointer (some ⟨b, 0, none⟩)] w fun e w' => e = .returned (.tuple #[.string ⟨#[]⟩, .bool false]) ∧ w = w' := popS_no h.holds
theorem popB {x : ByteArray} (h : Both w0 w b q n xs (x :: ys)) :
    Calls Try.prog 33 #[.pointer (some ⟨q, 0, none⟩)] w fun e w' => e = .returned (.tuple #[.string x, .bool true]) ∧ Hid (Both w0 w' b q n xs ys) := by
  obtain ⟨F, G, v, p, r, z, d⟩ := h
  exact (refPop_some r).mono fun _ _ ⟨he, hh⟩ => ⟨he, Lib.hid (Both.turnB p z d hh.out)⟩
theorem popB_no (h : Both w0 w b q n xs []) :
    Calls Try.prog 33 #[.pointer (some ⟨q, 0, none⟩)] w fun e w' => e = .returned (.tuple #[.string ⟨#[]⟩, .bool false]) ∧ w = w' := let ⟨_, _, _, _, r, _⟩ := h; refPop_none r
theorem atA (h : Both w0 w b q n xs ys) (i : Nat) (x : ByteArray) (hx : xs[i]? = some x) :
    Calls Try.prog 19 #[.pointer (some ⟨b, 0, none⟩), .int .i64 i] w fun e w' => e = .returned (.tuple #[.string x, .bool true]) ∧ Hid (Both w0 w' b q n xs ys) :=
  (atS_some h.choose_spec.choose_spec.choose_spec.1.2.2.2 i (by rw [List.length_map]; exact (List.getElem?_eq_some_iff.1 hx).1) x (by rw [List.getElem?_map, hx]; rfl)).mono fun _ _ ⟨he, k, hk⟩ => ⟨he, by subst hk; exact Lib.hid (h.drewN k)⟩
theorem atA_no (h : Both w0 w b q n xs ys) (i : Int) (hi : i < 0 ∨ (xs.length : Int) ≤ i) :
    Calls Try.prog 19 #[.pointer (some ⟨b, 0, none⟩), .int .i64 i] w fun e w' => e = .returned (.tuple #[.string ⟨#[]⟩, .bool false]) ∧ w = w' := atS_no h.holds i (by rw [List.length_map]; exact hi)
theorem atB (h : Both w0 w b q n xs ys) (i : Nat) (x : ByteArray) (hx : ys[i]? = some x) :
    Calls Try.prog 34 #[.pointer (some ⟨q, 0, none⟩), .int .i64 i] w fun e w' => e = .returned (.tuple #[.string x, .bool true]) ∧ w = w' := let ⟨_, _, _, _, r, _⟩ := h; refAt_some r i x hx
theorem atB_no (h : Both w0 w b q n xs ys) (i : Int) (hi : i < 0 ∨ (ys.length : Int) ≤ i) :
    Calls Try.prog 34 #[.pointer (some ⟨q, 0, none⟩), .int .i64 i] w fun e w' => e = .returned (.tuple #[.string ⟨#[]⟩, .bool false]) ∧ w = w' := let ⟨_, _, _, _, r, _⟩ := h; refAt_none r i hi
theorem clearA (h : Both w0 w b q n xs ys) : Calls Try.prog 17 #[.pointer (some ⟨b, 0, none⟩)] w fun e w' => e = .returned (.tuple #[]) ∧ Hid (Both w0 w' b q n [] ys) := by
  obtain ⟨F, G, v, p, r, z, d⟩ := h
  exact (clearS_turn p).mono fun _ _ ⟨he, hh⟩ => ⟨he, Lib.hid (Both.turnA (zs := []) r z d hh.out)⟩
/-- The reference's is let go: the store of no slice. -/
theorem clearB (h : Both w0 w b q n xs ys) : (∃ A cap, w.cell? ⟨q, 1, none⟩ = some (.slice A ys.length cap)) ∧ w.frozen? ⟨q, 1, none⟩ = false ∧ Both w0 (w.setCell ⟨q, 1, none⟩ (.slice none 0 0)) b q n xs [] := by
  obtain ⟨F, G, v, p, r, z, d⟩ := h
  obtain ⟨A, cap, hv⟩ := r.2.1.form
  refine ⟨⟨A, cap, by rw [← hv]; exact cell_at r.1 1⟩, free_at r.1 1, Both.turnB (zs := []) p z d ?_⟩
  obtain ⟨G', t, r'⟩ := r.set (v' := .slice none 0 0) (l' := []) rfl rfl rfl (Nat.le_refl _) (fun _ _ _ => rfl) r.1 (.inl ⟨rfl, rfl⟩) (Nat.zero_le _) (fun g hg => by simp [Value.ownBlock] at hg)
  exact ⟨_, G', t, r'⟩
theorem cellsB (h : Both w0 w b q n xs ys) : w.cell? ⟨q, 0, none⟩ = some (.int .i64 n) ∧ ∃ A cap, w.cell? ⟨q, 1, none⟩ = some (.slice A ys.length cap) := by
  obtain ⟨F, G, v, p, r, z, d⟩ := h
  obtain ⟨A, cap, hv⟩ := r.2.1.form
  exact ⟨cell_at r.1 0, A, cap, by rw [← hv]; exact cell_at r.1 1⟩
theorem lenQ (h : Both w0 w b q n xs ys) (k : Nat) : Calls Try.prog 21 #[.pointer (some ⟨b, 0, none⟩)] (w.drewN k) fun e w' => e = .returned (.int .i64 xs.length) ∧ ∃ m, w' = w.drewN m :=
  (lenS (h.drewN k).holds (xs.length : Int) (by rw [List.length_map])).mono fun _ _ ⟨he, hw⟩ => ⟨he, k, hw.symm⟩
theorem roomQ (h : Both w0 w b q n xs ys) (k : Nat) : Calls Try.prog 22 #[.pointer (some ⟨b, 0, none⟩)] (w.drewN k) fun e w' => e = .returned (.int .i64 ((n : Int) - xs.length)) ∧ ∃ m, w' = w.drewN m :=
  Calls.quiet_of ((roomS_any (h.drewN k).choose_spec.choose_spec.choose_spec.1.2.2.2).mono fun _ _ ⟨he, m, hm⟩ => ⟨by rw [he, List.length_map], m, hm⟩)
/-- Both are made. -/
theorem newBoth {w1 : World} (h : Holds 81 9 w w1 b n []) (hn : n ≤ 1048576) (hw : w' = w1.alloc (.cells #[.int .i64 n, .slice none 0 0] 68)) : Both w w' b w1.heap.size n [] [] := by
  subst hw
  obtain ⟨F, p1, p2, p3, p4⟩ := h
  have hB := (Below.refl w1.heap.size w1).alloc (Nat.le_refl _) (.cells #[.int .i64 n, .slice none 0 0] 68)
  refine ⟨F, fun k => k = w1.heap.size, .slice none 0 0, ⟨p1.trans (hB.mono p1.size), p2, p3, p4.kept hB.size fun k hk => hB.block k (p4.lt k hk)⟩, ⟨heap_alloc_new _ _, .inl ⟨rfl, rfl⟩, Nat.zero_le _, hn, rfl, fun g hg => by simp [Value.ownBlock] at hg, fun k hk => by subst hk; simp⟩, fun k hk => by subst hk; exact p1.size, fun k hk hg => ?_⟩
  have := p4.lt k hk
  omega
end
end Go.Proofs.Ytmdbpnpbohmofaa

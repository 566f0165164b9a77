/- A ring of numbers beside a list of one's own that the walk appends to: what each call makes of both. -/
import Derived.Test.YtmdbpnpbohmofaaWalkUB
import Derived.Test.YtmdbpnpbohmofaaWalkUC
namespace Go.Proofs.Ytmdbpnpbohmofaa
open Go.RowKit M Go.Conc
/-- The ring holds xs; the slice v holds l; they share no block, and nothing older than w0 was turned. -/
def St (w0 w : World) (b n : Nat) (xs : List Int) (v : Value) (l : List Int) : Prop :=
  ∃ F, Owns 72 23 w0 w F b n (xs.map (Value.int .u32)) ∧ w.ownsRow 0 23 1 v l.length (l.map (Value.int .u32)) ∧ ∀ g, v.ownBlock = some g → w0.heap.size ≤ g ∧ ¬ F g
theorem St.start {w0 w : World} {b n : Nat} (h : Holds 72 23 w0 w b n []) : St w0 w b n [] (.slice none 0 0) [] :=
  let ⟨F, o⟩ := h; ⟨F, o, World.ownsRow_nil _ _ _ _, fun g hg => by simp [Value.ownBlock] at hg⟩
section
variable {w0 w w' : World} {b n : Nat} {xs ys l : List Int} {v : Value}
theorem St.holds (h : St w0 w b n xs v l) : Holds 72 23 w0 w b n (xs.map (Value.int .u32)) := let ⟨F, o, _⟩ := h; ⟨F, o⟩
theorem St.below (h : St w0 w b n xs v l) : Below w0.heap.size w0 w := h.holds.below
theorem St.form (h : St w0 w b n xs v l) : ∃ A cap, v = .slice A l.length cap := let ⟨_, _, o, _⟩ := h; owns_form o
theorem St.turn {F : Nat → Prop} (h2 : w.ownsRow 0 23 1 v l.length (l.map (Value.int .u32))) (h3 : ∀ g, v.ownBlock = some g → w0.heap.size ≤ g ∧ ¬ F g)
    (ht : ∃ F', Turn w w' F F' ∧ Owns 72 23 w0 w' F' b n (ys.map (Value.int .u32))) : St w0 w' b n ys v l := by
  obtain ⟨F', t, o⟩ := ht
  refine ⟨F', o, owns_of h2 fun g hg => t.block g (h2.lt g hg).2 (h3 g hg).2, fun g hg => ⟨(h3 g hg).1, fun hF => ?_⟩⟩
  rcases t.foot g hF with q | q
  · exact (h3 g hg).2 q
  · have := (h2.lt g hg).2; omega
theorem St.push (h : St w0 w b n xs v l) (hm : xs.length < n) (x : Int) :
    Calls Try.prog 12 #[.pointer (some ⟨b, 0, none⟩), .int .u32 x] w fun e w' => e = .returned (.bool true) ∧ Hid (St w0 w' b n (xs ++ [x]) v l) := by
  obtain ⟨F, q1, q2, q3⟩ := h
  exact (pushU_turn q1 (by rw [List.length_map]; exact hm) x).mono fun _ _ ⟨he, hh⟩ => ⟨he, St.turn (ys := xs ++ [x]) q2 q3 (by rw [List.map_append]; exact hh.out)⟩
theorem St.push_no (h : St w0 w b n xs v l) (hm : xs.length = n) (x : Int) :
    Calls Try.prog 12 #[.pointer (some ⟨b, 0, none⟩), .int .u32 x] w fun e w' => e = .returned (.bool false) ∧ w = w' :=
  pushU_no h.holds (by rw [List.length_map]; exact hm) x
theorem St.pop {x : Int} (h : St w0 w b n (x :: xs) v l) :
    Calls Try.prog 13 #[.pointer (some ⟨b, 0, none⟩)] w fun e w' => e = .returned (.tuple #[.int .u32 x, .bool true]) ∧ Hid (St w0 w' b n xs v l) := by
  obtain ⟨F, q1, q2, q3⟩ := h
  exact (popU_turn (x := x) (xs := xs.map (Value.int .u32)) q1).mono fun _ _ ⟨he, hh⟩ => ⟨he, St.turn q2 q3 hh.out⟩
theorem St.pop_no (h : St w0 w b n [] v l) :
    Calls Try.prog 13 #[.pointer (some ⟨b, 0, none⟩)] w fun e w' => e = .returned (.tuple #[.int .u32 0, .bool false]) ∧ w = w' := popU_no h.holds
/-- Behind an append of x to the slice. -/
theorem St.append {w3 : World} {v' : Value} {o : Obj} (h : St w0 w b n xs v l) (x : Int) (hown : w3.ownsRow 0 23 1 v' (l.length + 1) (l.map (Value.int .u32) ++ [.int .u32 x])) (hgrow : (w.alloc o).grownBy w3 v.ownBlock)
    (hat : v'.ownBlock = v.ownBlock ∨ v'.ownBlock = some (w.heap.size + 1)) : St w0 w3 b n xs v' (l ++ [x]) := by
  obtain ⟨F, ⟨q1, q2, q3, q4⟩, h2, h3⟩ := h
  have hs : (w.alloc o).heap.size = w.heap.size + 1 := by simp
  have hgs := hgrow.size
  have hs1 := q1.size
  have old : ∀ k, k < w.heap.size → some k ≠ v.ownBlock → w3.heap[k]? = w.heap[k]? := fun k hk hv => by rw [hgrow.block k (by omega) hv, heap_alloc_old _ _ hk]
  refine ⟨F, ⟨⟨hgrow.os.trans q1.os, hgrow.tape.trans q1.tape, hgrow.output.trans q1.output, by omega, fun k hk => ?_⟩, q2, q3, q4.kept (by omega) fun k hk => old k (q4.lt k hk) fun e => (h3 k e.symm).2 hk⟩, ?_, fun g hg => ?_⟩
  · rw [old k (by omega) (fun e => by have := (h3 k e.symm).1; omega)]
    exact q1.block k hk
  · simpa using hown
  · rcases hat with e | e
    · rw [e] at hg; exact h3 g hg
    · rw [e] at hg
      cases hg
      exact ⟨by omega, fun hF => by have := q4.lt _ hF; omega⟩
/-- The element at a place of the slice. -/
theorem St.cell (h : St w0 w b n xs v l) {i : Nat} (hi : i < l.length) : ∃ g cap, v = .slice (some ⟨g, 0, none⟩) l.length cap ∧ w.cell? ⟨g, i, none⟩ = some (.int .u32 (l.getD i 0)) := by
  obtain ⟨F, _, h2, _⟩ := h
  obtain ⟨g, cap, rfl⟩ : ∃ g cap, v = .slice (some ⟨g, 0, none⟩) l.length cap := by
    obtain ⟨_, ⟨_, q⟩ | ⟨g, cap, _, q, _⟩⟩ := h2
    · omega
    · exact ⟨g, cap, q⟩
  refine ⟨g, cap, rfl, ?_⟩
  rw [h2.cellAt i (by omega)]
  simp [List.getD_eq_getElem?_getD, hi]
end
end Go.Proofs.Ytmdbpnpbohmofaa

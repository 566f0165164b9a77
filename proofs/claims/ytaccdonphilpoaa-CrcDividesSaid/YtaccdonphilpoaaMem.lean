/- Plain facts on a block of integers in memory: its cells, a store into it, a new one. -/
import Derived.Test.YtaccdonphilpoaaMath
import Derived.WalkKit
namespace Go.Proofs.Ytaccdonphilpoaa.M
open Go.RowKit

/-- Block b is a row of these integers, and none of it is frozen. -/
def Ints (k : IntKind) (T : TypeId) (w : World) (b : Nat) (l : List Int) : Prop := w.heap[b]? = some (.cells (l.map (Value.int k)).toArray T (0, 0))

section
variable {k : IntKind} {T : TypeId} {w : World} {b : Nat} {l : List Int}
theorem Ints.lt (h : Ints k T w b l) : b < w.heap.size := by
  rcases Nat.lt_or_ge b w.heap.size with h' | h'
  · exact h'
  · rw [Ints, Array.getElem?_eq_none h'] at h; exact absurd h (by simp)
theorem Ints.cell (h : Ints k T w b l) {i : Nat} (hi : i < l.length) : w.cell? ⟨b, i, none⟩ = some (.int k (l.getD i 0)) := by
  unfold Ints at h
  simp [World.cell?, h, List.getD_eq_getElem?_getD, List.getElem?_eq_getElem hi]
theorem Ints.free (h : Ints k T w b l) (i : Nat) : w.frozen? ⟨b, i, none⟩ = false := by
  unfold Ints at h
  simp [World.frozen?, h]
theorem Ints.set (h : Ints k T w b l) (i : Nat) (v : Int) : Ints k T (w.setCell ⟨b, i, none⟩ (.int k v)) b (l.set i v) := by
  have hlt := h.lt
  unfold Ints at *
  simp only [World.setCell, Array.getElem?_modify, if_true, h, Option.map_some, Option.isSome_none]
  congr 1
  congr 1
  apply Array.ext'
  simp [List.map_set]
theorem Ints.made (w : World) : Ints k T (w.alloc (.cells (l.map (Value.int k)).toArray T)) w.heap.size l := by
  unfold Ints
  simp only [heapAl, Array.getElem?_push, if_true]
theorem Ints.at_ {w' : World} (h : Ints k T w b l) (he : w'.heap[b]? = w.heap[b]?) : Ints k T w' b l := by
  unfold Ints at *; rw [he, h]
theorem Ints.row (h : Ints k T w b l) : Row k w (some ⟨b, 0, none⟩) l := Row.of_block h
/-- A part of it, from place o on. -/
theorem Ints.part (h : Ints k T w b l) (o n : Nat) (ho : o + n ≤ l.length) : Row k w (some ⟨b, o, none⟩) ((l.drop o).take n) := by
  refine .inr ⟨b, o, rfl, fun i hi => ?_⟩
  have hi' : i < n := by simp at hi; omega
  rw [h.cell (by omega)]
  simp [List.getD_eq_getElem?_getD, hi']
end

theorem zeros_made (k : IntKind) (n : Nat) : madeCells (Value.int k 0).cells (n * 1) = Array.replicate n (Value.int k 0) := by
  apply Array.ext'
  rw [Nat.mul_one]
  show (madeCells #[Value.int k 0] n).toList = _
  rw [toList_madeCells_one]
  simp
theorem Ints.zeros (k : IntKind) (T : TypeId) (w : World) (n : Nat) : Ints k T (w.alloc (.cells (Array.replicate n (Value.int k 0)) T)) w.heap.size (List.replicate n 0) := by
  have h := Ints.made (k := k) (T := T) (l := List.replicate n (0 : Int)) w
  have e : ((List.replicate n (0 : Int)).map (Value.int k)).toArray = Array.replicate n (Value.int k 0) := by
    apply Array.ext'; simp
  rwa [e] at h

/-- What was there before holds what it held: a row that came in, in a world that has turned nothing below B. -/
theorem Row.kept {k : IntKind} {w w' : World} {A : Option Addr} {l : List Int} (h : Row k w A l) (hb : Below w.heap.size w w') : Row k w' A l := by
  rcases h with h | ⟨b, off, h, hc⟩
  · exact .inl h
  · exact .inr ⟨b, off, h, fun i hi => by rw [hb.cell (World.block_lt_of_cell? w _ (hc i hi))]; exact hc i hi⟩
theorem Row.at_ {k : IntKind} {w : World} {A : Option Addr} {l : List Int} (h : Row k w A l) {i : Nat} (hi : i < l.length) :
    ∃ b off, A = some ⟨b, off, none⟩ ∧ w.cell? ⟨b, off + i, none⟩ = some (.int k (l.getD i 0)) := by
  rcases h with h | ⟨b, off, h, hc⟩
  · subst h; simp at hi
  · exact ⟨b, off, h, hc i hi⟩
theorem Row.take {k : IntKind} {w : World} {A : Option Addr} {l : List Int} (h : Row k w A l) (n : Nat) : Row k w A (l.take n) := by
  rcases h with h | ⟨b, off, h, hc⟩
  · exact .inl (by rw [h, List.take_nil])
  · exact .inr ⟨b, off, h, fun i hi => by
      have hi' : i < n ∧ i < l.length := by simp at hi; omega
      rw [hc i hi'.2]
      simp [List.getD_eq_getElem?_getD, hi'.1]⟩
theorem Bytes.take {l : List Int} (h : Bytes l) (n : Nat) : Bytes (l.take n) := fun m hm => h m (List.mem_of_mem_take hm)
theorem Bytes.drop {l : List Int} (h : Bytes l) (n : Nat) : Bytes (l.drop n) := fun m hm => h m (List.mem_of_mem_drop hm)
theorem Bytes.append {l m : List Int} (h : Bytes l) (h' : Bytes m) : Bytes (l ++ m) := fun n hn => by
  rcases List.mem_append.1 hn with h1 | h1
  · exact h n h1
  · exact h' n h1
/-- A slice of the call's own, as a row. -/
theorem own_row {w : World} {base : Nat} {e : TypeId} {v : Value} {l : List Int} {k : IntKind} (h : w.ownsRow base e 1 v l.length (l.map (Value.int k))) :
    ∃ A cap, v = .slice A l.length cap ∧ Row k w A l := by
  obtain ⟨_, ⟨rfl, h0⟩ | ⟨g, cap, cur, rfl, hb, hh, hn, hm, hs, ht⟩⟩ := h
  · refine ⟨none, 0, by rw [h0], .inl (List.eq_nil_of_length_eq_zero h0)⟩
  · refine ⟨_, cap, rfl, .inr ⟨g, 0, rfl, fun i hi => ?_⟩⟩
    have h2 : (cur.toList.take (l.length * 1))[i]? = (l.map (Value.int k))[i]? := by rw [ht]
    rw [Nat.mul_one, List.getElem?_take, if_pos hi] at h2
    have e2 : w.cell? ⟨g, 0 + i, none⟩ = cur.toList[i]? := by simp [World.cell?, hh]
    rw [e2, h2]
    simp [List.getD_eq_getElem?_getD, List.getElem?_eq_getElem hi]
theorem Ints.own {w : World} {base b : Nat} {l : List Int} {k : IntKind} {T : TypeId} (h : Ints k T w b l) (hb : base ≤ b) (hm : l.length ≤ maxLen) :
    w.ownsRow base T 1 (.slice (some ⟨b, 0, none⟩) l.length l.length) l.length (l.map (Value.int k)) :=
  ⟨by simp, .inr ⟨b, l.length, _, rfl, hb, h, Nat.le_refl _, hm, by simp, by simp; rw [List.take_of_length_le (by simp)]⟩⟩

/-- Copied so far: the first i of the new ones, the rest as they were. -/
theorem take_set {l z : List Int} {i : Nat} (hi : i < l.length) (hz : z.length = l.length) : (l.take i ++ z.drop i).set i (l.getD i 0) = l.take (i + 1) ++ z.drop (i + 1) := by
  apply List.ext_getElem
  · simp; omega
  · intro j h1 h2
    rw [List.getElem_set]
    by_cases hj : i = j
    · subst hj
      rw [if_pos rfl, List.getElem_append_left (by simp; omega)]
      simp [List.getD_eq_getElem?_getD, List.getElem?_eq_getElem hi]
    · rw [if_neg hj]
      by_cases hlt : j < i
      · rw [List.getElem_append_left (by simp; omega), List.getElem_append_left (by simp; omega)]
        simp
      · rw [List.getElem_append_right (by simp; omega), List.getElem_append_right (by simp; omega)]
        simp only [List.getElem_drop, List.length_take]
        congr 1
        omega
theorem getD_set {l : List Int} {i j : Nat} {v : Int} (hi : i < l.length) : (l.set i v).getD j 0 = if i = j then v else l.getD j 0 := by
  simp only [List.getD_eq_getElem?_getD, List.getElem?_set]
  split
  · rename_i h; subst h; simp
  · rfl
/-- m is l with sixteen marks behind. -/
def Marked (l m : List Int) : Prop := m.length = l.length + 16 ∧ (∀ j, j < l.length → m.getD j 0 = l.getD j 0) ∧ ∀ j, l.length ≤ j → j < l.length + 16 → m.getD j 0 = 90
theorem Marked.part {l m : List Int} (h : Marked l m) (o n : Nat) (ho : o + n ≤ l.length) : (m.drop o).take n = (l.drop o).take n := by
  obtain ⟨h1, h2, _⟩ := h
  apply List.ext_getElem
  · simp; omega
  · intro j hj1 hj2
    have hjn : j < n := by simp at hj1; omega
    have e := h2 (o + j) (by omega)
    rw [List.getD_eq_getElem?_getD, List.getD_eq_getElem?_getD, List.getElem?_eq_getElem (by omega), List.getElem?_eq_getElem (by omega)] at e
    simpa using e
end Go.Proofs.Ytaccdonphilpoaa.M

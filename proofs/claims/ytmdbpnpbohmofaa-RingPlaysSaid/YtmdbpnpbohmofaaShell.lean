/- From what the proof's shell says of a slice to a list of its elements. -/
import Derived.Test.YtmdbpnpbohmofaaBase
import Derived.ProofKit
namespace Go.Proofs.Ytmdbpnpbohmofaa.M
open Go.RowKit
/-- What a walk is told of a slice: its cells, where there are any. -/
def Row (k : IntKind) (w : World) (A : Option Addr) (l : List Int) : Prop :=
  l = [] ∨ ∃ b off, A = some ⟨b, off, none⟩ ∧ ∀ i, i < l.length → w.cell? ⟨b, off + i, none⟩ = some (.int k (l.getD i 0))
/-- The shell's 'IsRow', as a list of its elements. -/
theorem row_of {k : IntKind} {w : World} {a : Option Addr} {len cap : Nat} {zs : List Int}
    (h : (a = none ∧ len = 0 ∧ cap = 0 ∧ zs = []) ∨ ∃ x, a = some x ∧ len ≤ cap ∧ cap ≤ maxLen ∧ zs.length = cap ∧ (∀ i, i < zs.length → w.cell? (x.add i) = some (.int k (zs.getD i 0))) ∧ ∀ n ∈ zs, (Lit.int k n).wf = true) :
    ∃ l : List Int, l.length = len ∧ Row k w a l ∧ len ≤ cap ∧ (∀ n ∈ l, (Lit.int k n).wf = true) ∧ (∀ x, a = some x → x.block < w.heap.size ∨ l = []) := by
  rcases h with ⟨rfl, rfl, rfl, rfl⟩ | ⟨x, rfl, hl, hm, hz, hc, hw⟩
  · exact ⟨[], rfl, .inl rfl, Nat.le_refl _, (fun _ h => by cases h), (fun _ h => by cases h)⟩
  · refine ⟨zs.take len, by simp; omega, ?_, hl, fun n hn => hw n (List.mem_of_mem_take hn), ?_⟩
    · by_cases h0 : len = 0
      · left; simp [h0]
      · right
        have hs : x.spot = none := by
          have h1 := hc 0 (by omega)
          simp only [Addr.add, if_true, World.cell?] at h1
          cases hx : x.spot with
          | none => rfl
          | some q =>
            rw [hx] at h1
            split at h1 <;> simp at h1
        obtain ⟨b, off, sp⟩ := x
        simp only at hs
        subst hs
        refine ⟨b, off, rfl, fun i hi => ?_⟩
        have hi' : i < len := by simp at hi; omega
        have h1 := hc i (by omega)
        have e : (⟨b, off, none⟩ : Addr).add i = ⟨b, off + i, none⟩ := by
          unfold Addr.add
          split
          · rename_i h; subst h; rfl
          · rfl
        rw [e] at h1
        rw [h1]
        simp [List.getD_eq_getElem?_getD, hi']
    · intro y hy
      by_cases h0 : len = 0
      · right; simp [h0]
      · left
        cases hy
        have h1 := hc 0 (by omega)
        exact World.block_lt_of_cell? w _ h1
theorem Row.kept {k : IntKind} {w w' : World} {A : Option Addr} {l : List Int} (h : Row k w A l) (hb : Below w.heap.size w w') : Row k w' A l := by
  rcases h with h | ⟨b, off, h, hc⟩
  · exact .inl h
  · exact .inr ⟨b, off, h, fun i hi => by rw [hb.cell (World.block_lt_of_cell? w _ (hc i hi))]; exact hc i hi⟩
theorem Row.at_ {k : IntKind} {w : World} {A : Option Addr} {l : List Int} (h : Row k w A l) {i : Nat} (hi : i < l.length) :
    ∃ b off, A = some ⟨b, off, none⟩ ∧ w.cell? ⟨b, off + i, none⟩ = some (.int k (l.getD i 0)) := by
  rcases h with h | ⟨b, off, h, hc⟩
  · subst h; simp at hi
  · exact ⟨b, off, h, hc i hi⟩
end Go.Proofs.Ytmdbpnpbohmofaa.M

/- From a reading of the list of things done to a list of what is done; and the shell of a law over such a list. -/
import Derived.Test.YtjemamdldeeebaaProg
import Derived.Test.YtjemamdldeeebaaShell
import Derived.Deep.Slices
namespace Go.Proofs.Ytjemamdldeeebaa.M
open Go.RowKit Go.ChangeShapes Go.WideShapes

theorem list_of {α : Type} [Inhabited α] (Q : Nat → α → Prop) : ∀ n, (∀ i, i < n → ∃ x, Q i x) → ∃ l : List α, l.length = n ∧ ∀ i, i < n → Q i (l.getD i default)
  | 0, _ => ⟨[], rfl, fun i hi => absurd hi (by omega)⟩
  | n + 1, h => by
    obtain ⟨l, hl, hq⟩ := list_of Q n (fun i hi => h i (by omega))
    obtain ⟨x, hx⟩ := h n (by omega)
    refine ⟨l ++ [x], by simp [hl], fun i hi => ?_⟩
    by_cases e : i < n
    · have : (l ++ [x]).getD i default = l.getD i default := by
        simp [List.getD_eq_getElem?_getD, List.getElem?_append, hl, e]
      rw [this]; exact hq i e
    · have e2 : i = n := by omega
      subst e2
      have : (l ++ [x]).getD i default = x := by
        simp [List.getD_eq_getElem?_getD, hl]
      rw [this]; exact hx

section
variable {H : Type} {enc : TypeId × Value → H} {P : Program} {w : World} {held : Bool}
/-- A slice of structs, each field one cell: where each field lies, and that it reads. -/
theorem open_rows {t e : TypeId} {fs : Array Field} {fuel : Nat} {a : Option Addr} {len cap : Nat} {x : DataW H × List MemPlace} (ht : P.underlying t = some (.slice e)) (he : P.underlying e = some (.struct fs))
    (hoff : ∀ (j : Nat) (f : Field), fs[j]? = some f → f.offset = j ∧ P.cellsOf f.type = 1) (hC : P.cellsOf e = fs.size)
    (h : DataW.trod enc P w 0 (fun _ => true) held fuel t [.slice a len cap] = some x) :
    (a = none ∧ len = 0 ∧ cap = 0) ∨ ∃ ad, a = some ad ∧ len ≤ cap ∧ cap ≤ maxLen ∧ ∀ i, i < len → ∃ n, ∀ (j : Nat) (f : Field), fs[j]? = some f →
      ∃ v y, w.cell? (ad.add (i * fs.size + j)) = some v ∧ DataW.trod enc P w 0 (fun _ => true) held n f.type [v] = some y := by
  rcases Go.Deep.open_slice ht h with ⟨h0, _⟩ | ⟨ad, len', cap', m, n, D, Pl, hcs, _, hl, hm, hmm, _, hi⟩
  · simp at h0
    exact .inl h0
  · simp at hcs
    obtain ⟨rfl, rfl, rfl⟩ := hcs
    simp only [if_true] at hmm
    subst hmm
    refine .inr ⟨ad, rfl, hl, hm, fun i hlt => ?_⟩
    obtain ⟨cs, hc, htr⟩ := hi i (by omega)
    rw [hC] at hc
    obtain ⟨ys, k, _, _, _, hyl, hf⟩ := DataW.trod_struct he htr
    obtain ⟨_, hcl, hat⟩ := World.cells?_some hc
    refine ⟨k, fun j f hj => ?_⟩
    have hjl : j < fs.size := (Array.getElem?_eq_some_iff.1 hj).1
    obtain ⟨ho, h1⟩ := hoff j f hj
    have hr := hf j f hj
    rw [ho, h1] at hr
    have hv : cs[j]? = some (cs[j]'(by omega)) := List.getElem?_eq_getElem (by omega)
    have hone : (cs.drop j).take 1 = [cs[j]'(by omega)] := by
      rw [List.drop_eq_getElem_cons (by omega)]; rfl
    rw [hone] at hr
    have hy : ys[j]? = some (ys[j]'(by omega)) := List.getElem?_eq_getElem (by omega)
    refine ⟨_, _, ?_, hr.trans hy⟩
    rw [← Go.Deep.add_add, hat j hjl, hv]
end

/-- What is done: its kind, the moment, whether it is urgent. -/
structure Op where
  kind : Int
  now : Int
  urgent : Bool
instance : Inhabited Op := ⟨⟨0, 0, false⟩⟩
/-- The things done, in memory: three cells each. -/
def OpRow (w : World) (a : Option Addr) (ops : List Op) : Prop :=
  ops = [] ∨ ∃ b off, a = some ⟨b, off, none⟩ ∧ ∀ i, i < ops.length → w.cell? ⟨b, off + i * 3, none⟩ = some (.int .i64 (ops.getD i default).kind) ∧ w.cell? ⟨b, off + i * 3 + 1, none⟩ = some (.int .i64 (ops.getD i default).now) ∧ w.cell? ⟨b, off + i * 3 + 2, none⟩ = some (.bool (ops.getD i default).urgent)
def OpsFit (ops : List Op) : Prop := ∀ i, i < ops.length → -9223372036854775808 ≤ (ops.getD i default).now ∧ (ops.getD i default).now ≤ 9223372036854775807

def opFields : Array Field := #[⟨ "Kind", 3, 0, false, "", "", 0⟩, ⟨ "Now", 2, 1, false, "", "", 8⟩, ⟨ "Urgent", 4, 2, false, "", "", 16⟩]
theorem opFields_off : ∀ (j : Nat) (f : Field), opFields[j]? = some f → f.offset = j ∧ Try.prog.cellsOf f.type = 1
  | 0, f, h => by cases h; exact ⟨rfl, by kernel_rfl⟩
  | 1, f, h => by cases h; exact ⟨rfl, by kernel_rfl⟩
  | 2, f, h => by cases h; exact ⟨rfl, by kernel_rfl⟩
  | j + 3, f, h => by simp [opFields] at h
theorem ops_of {H : Type} {enc : TypeId × Value → H} {w : World} {fuel : Nat} {a : Option Addr} {len cap : Nat} {x : DataW H × List MemPlace}
    (h : DataW.trod enc Try.prog w 0 (fun _ => true) true fuel 22 [.slice a len cap] = some x) : ∃ ops : List Op, ops.length = len ∧ OpRow w a ops ∧ OpsFit ops := by
  rcases open_rows (fs := opFields) Try.underlying22 Try.underlying32 opFields_off (by kernel_rfl) h with ⟨rfl, rfl, rfl⟩ | ⟨ad, rfl, hl, hm, hi⟩
  · exact ⟨[], rfl, .inl rfl, fun i hi => absurd hi (by simp)⟩
  · have each : ∀ i, i < len → ∃ o : Op, w.cell? (ad.add (i * 3)) = some (.int .i64 o.kind) ∧ w.cell? (ad.add (i * 3 + 1)) = some (.int .i64 o.now) ∧ w.cell? (ad.add (i * 3 + 2)) = some (.bool o.urgent) ∧ -9223372036854775808 ≤ o.now ∧ o.now ≤ 9223372036854775807 := by
      intro i hlt
      obtain ⟨n, hf⟩ := hi i hlt
      obtain ⟨v0, y0, hc0, hr0⟩ := hf 0 _ rfl
      obtain ⟨v1, y1, hc1, hr1⟩ := hf 1 _ rfl
      obtain ⟨v2, y2, hc2, hr2⟩ := hf 2 _ rfl
      obtain ⟨z0, e0, _, _⟩ := DataW.trod_int Try.underlying3 hr0
      obtain ⟨z, e1, _, wz⟩ := DataW.trod_int Try.underlying2 hr1
      obtain ⟨b, e2, _⟩ := DataW.trod_bool Try.underlying4 hr2
      simp at e0 e1 e2
      subst e0 e1 e2
      exact ⟨⟨z0, z, b⟩, hc0, hc1, hc2, wf_i64 wz⟩
    obtain ⟨ops, hlen, hops⟩ := list_of _ len each
    refine ⟨ops, hlen, ?_, fun i hi => (hops i (by omega)).2.2.2⟩
    by_cases h0 : len = 0
    · exact .inl (List.eq_nil_of_length_eq_zero (by omega))
    · right
      have hs : ad.spot = none := by
        have h1 := (hops 0 (by omega)).1
        simp only [Nat.zero_mul, Addr.add, if_true, World.cell?] at h1
        cases hx : ad.spot with
        | none => rfl
        | some q =>
          rw [hx] at h1
          split at h1 <;> simp at h1
      obtain ⟨b, off, sp⟩ := ad
      simp only at hs
      subst hs
      have e : ∀ n, (⟨b, off, none⟩ : Addr).add n = ⟨b, off + n, none⟩ := by
        intro n
        unfold Addr.add
        split
        · rename_i h; subst h; rfl
        · rfl
      refine ⟨b, off, rfl, fun i hi => ?_⟩
      obtain ⟨h1, h2, h3, _⟩ := hops i (by omega)
      rw [e] at h1 h2 h3
      exact ⟨h1, by rw [Nat.add_assoc]; exact h2, by rw [Nat.add_assoc]; exact h3⟩
theorem OpRow.kept {w w' : World} {a : Option Addr} {ops : List Op} (h : OpRow w a ops) (hb : Below w.heap.size w w') : OpRow w' a ops := by
  rcases h with h | ⟨b, off, h, hc⟩
  · exact .inl h
  · refine .inr ⟨b, off, h, fun i hi => ?_⟩
    obtain ⟨h1, h2, h3⟩ := hc i hi
    exact ⟨by rw [hb.cell (World.block_lt_of_cell? w _ h1)]; exact h1, by rw [hb.cell (World.block_lt_of_cell? w _ h2)]; exact h2, by rw [hb.cell (World.block_lt_of_cell? w _ h3)]; exact h3⟩
theorem OpRow.at_ {w : World} {a : Option Addr} {ops : List Op} (h : OpRow w a ops) {i : Nat} (hi : i < ops.length) :
    ∃ b off, a = some ⟨b, off, none⟩ ∧ w.cell? ⟨b, off + i * 3, none⟩ = some (.int .i64 (ops.getD i default).kind) ∧ w.cell? ⟨b, off + i * 3 + 1, none⟩ = some (.int .i64 (ops.getD i default).now) ∧ w.cell? ⟨b, off + i * 3 + 2, none⟩ = some (.bool (ops.getD i default).urgent) := by
  rcases h with h | ⟨b, off, h, hc⟩
  · subst h; simp at hi
  · exact ⟨b, off, h, hc i hi⟩
end Go.Proofs.Ytjemamdldeeebaa.M

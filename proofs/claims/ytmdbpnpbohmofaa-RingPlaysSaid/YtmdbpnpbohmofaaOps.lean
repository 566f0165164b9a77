/- From a reading of the list of things done to a list of what is done; and the shell of a law over such a list. -/
import Derived.Test.YtmdbpnpbohmofaaProg
import Derived.Test.YtmdbpnpbohmofaaShell
import Derived.Deep.Slices
namespace Go.Proofs.Ytmdbpnpbohmofaa.M
open Go.RowKit Go.ChangeShapes Go.WideShapes

theorem list_of {α : Type} [Inhabited α] (Q : Nat → α → Prop) : ∀ n, (∀ i, i < n → ∃ x, Q i x) → ∃ l : List α, l.length = n ∧ ∀ i, i < n → Q i (l.getD i default)
  | 0, _ => ⟨[], rfl, fun i hi => absurd hi (by omega)⟩
  | n + 1, h => by
    obtain ⟨l, hl, hq⟩ := list_of Q n (fun i hi => h i (by omega))
    obtain ⟨x, hx⟩ := h n (by omega)
    refine ⟨l ++ [x], by simp [hl], fun i hi => ?_⟩
    by_cases e : i < n
    · have : (l ++ [x]).getD i default = l.getD i default := by
        simp [List.getD_eq_getElem?_getD, List.getElem?_append, hl, e]
      rw [this]; exact hq i e
    · have e2 : i = n := by omega
      subst e2
      have : (l ++ [x]).getD i default = x := by
        simp [List.getD_eq_getElem?_getD, hl]
      rw [this]; exact hx

section
variable {H : Type} {enc : TypeId × Value → H} {P : Program} {w : World} {held : Bool}
/-- A slice of structs, each field one cell: where each field lies, and that it reads. -/
theorem open_rows {t e : TypeId} {fs : Array Field} {fuel : Nat} {a : Option Addr} {len cap : Nat} {x : DataW H × List MemPlace} (ht : P.underlying t = some (.slice e)) (he : P.underlying e = some (.struct fs))
    (hoff : ∀ (j : Nat) (f : Field), fs[j]? = some f → f.offset = j ∧ P.cellsOf f.type = 1) (hC : P.cellsOf e = fs.size)
    (h : DataW.trod enc P w 0 (fun _ => true) held fuel t [.slice a len cap] = some x) :
    (a = none ∧ len = 0 ∧ cap = 0) ∨ ∃ ad, a = some ad ∧ len ≤ cap ∧ cap ≤ maxLen ∧ ∀ i, i < len → ∃ n, ∀ (j : Nat) (f : Field), fs[j]? = some f →
      ∃ v y, w.cell? (ad.add (i * fs.size + j)) = some v ∧ DataW.trod enc P w 0 (fun _ => true) held n f.type [v] = some y := by
  rcases Go.Deep.open_slice ht h with ⟨h0, _⟩ | ⟨ad, len', cap', m, n, D, Pl, hcs, _, hl, hm, hmm, _, hi⟩
  · simp at h0
    exact .inl h0
  · simp at hcs
    obtain ⟨rfl, rfl, rfl⟩ := hcs
    simp only [if_true] at hmm
    subst hmm
    refine .inr ⟨ad, rfl, hl, hm, fun i hlt => ?_⟩
    obtain ⟨cs, hc, htr⟩ := hi i (by omega)
    rw [hC] at hc
    obtain ⟨ys, k, _, _, _, hyl, hf⟩ := DataW.trod_struct he htr
    obtain ⟨_, hcl, hat⟩ := World.cells?_some hc
    refine ⟨k, fun j f hj => ?_⟩
    have hjl : j < fs.size := (Array.getElem?_eq_some_iff.1 hj).1
    obtain ⟨ho, h1⟩ := hoff j f hj
    have hr := hf j f hj
    rw [ho, h1] at hr
    have hv : cs[j]? = some (cs[j]'(by omega)) := List.getElem?_eq_getElem (by omega)
    have hone : (cs.drop j).take 1 = [cs[j]'(by omega)] := by
      rw [List.drop_eq_getElem_cons (by omega)]; rfl
    rw [hone] at hr
    have hy : ys[j]? = some (ys[j]'(by omega)) := List.getElem?_eq_getElem (by omega)
    refine ⟨_, _, ?_, hr.trans hy⟩
    rw [← Go.Deep.add_add, hat j hjl, hv]
end


theorem spot_none {w : World} {ad : Addr} {v : Value} (h : w.cell? ad = some v) : ad.spot = none := by
  simp only [World.cell?] at h
  cases hx : ad.spot with
  | none => rfl
  | some q =>
    rw [hx] at h
    split at h <;> simp at h
theorem add_plain (b off n : Nat) : (⟨b, off, none⟩ : Addr).add n = ⟨b, off + n, none⟩ := by
  unfold Addr.add
  split
  · rename_i h; subst h; rfl
  · rfl
/-- A list of pairs, in memory: two cells each. -/
def PairRow (w : World) (a : Option Addr) (l : List (Int × Int)) : Prop :=
  l = [] ∨ ∃ b off, a = some ⟨b, off, none⟩ ∧ ∀ i, i < l.length → w.cell? ⟨b, off + i * 2, none⟩ = some (.int .u16 (l.getD i (0, 0)).1) ∧ w.cell? ⟨b, off + i * 2 + 1, none⟩ = some (.int .u16 (l.getD i (0, 0)).2)
def pairFields : Array Field := #[⟨ "Stream", 22, 0, false, "", "", 0⟩, ⟨ "Ssn", 22, 1, false, "", "", 2⟩]
theorem pairFields_off : ∀ (j : Nat) (f : Field), pairFields[j]? = some f → f.offset = j ∧ Try.prog.cellsOf f.type = 1
  | 0, f, h => by cases h; exact ⟨rfl, by kernel_rfl⟩
  | 1, f, h => by cases h; exact ⟨rfl, by kernel_rfl⟩
  | j + 2, f, h => by simp [pairFields] at h
def PairFit (_ : List (Int × Int)) : Prop := True
theorem pairs_of {H : Type} {enc : TypeId × Value → H} {w : World} {fuel : Nat} {a : Option Addr} {len cap : Nat} {x : DataW H × List MemPlace}
    (h : DataW.trod enc Try.prog w 0 (fun _ => true) true fuel 43 [.slice a len cap] = some x) : ∃ l : List (Int × Int), l.length = len ∧ PairRow w a l ∧ PairFit l := by
  rcases open_rows (fs := pairFields) Try.underlying43 Try.underlying48 pairFields_off (by kernel_rfl) h with ⟨rfl, rfl, rfl⟩ | ⟨ad, rfl, hl, hm, hi⟩
  · exact ⟨[], rfl, .inl rfl, trivial⟩
  · have each : ∀ i, i < len → ∃ o : Int × Int, w.cell? (ad.add (i * 2)) = some (.int .u16 o.1) ∧ w.cell? (ad.add (i * 2 + 1)) = some (.int .u16 o.2) := by
      intro i hlt
      obtain ⟨n, hf⟩ := hi i hlt
      obtain ⟨v0, y0, hc0, hr0⟩ := hf 0 _ rfl
      obtain ⟨v1, y1, hc1, hr1⟩ := hf 1 _ rfl
      obtain ⟨z0, e0, _, _⟩ := DataW.trod_int Try.underlying22 hr0
      obtain ⟨z1, e1, _, _⟩ := DataW.trod_int Try.underlying22 hr1
      simp at e0 e1
      subst e0 e1
      exact ⟨(z0, z1), hc0, hc1⟩
    obtain ⟨l, hlen, hops⟩ := list_of _ len each
    refine ⟨l, hlen, ?_, trivial⟩
    by_cases h0 : len = 0
    · exact .inl (List.eq_nil_of_length_eq_zero (by omega))
    · right
      have hs : ad.spot = none := by
        have h1 := (hops 0 (by omega)).1
        simp only [Nat.zero_mul, Addr.add, if_true] at h1
        exact spot_none h1
      obtain ⟨b, off, sp⟩ := ad
      simp only at hs
      subst hs
      refine ⟨b, off, rfl, fun i hi => ?_⟩
      obtain ⟨h1, h2⟩ := hops i (by omega)
      rw [add_plain] at h1 h2
      exact ⟨h1, by rw [Nat.add_assoc]; exact h2⟩
theorem PairRow.at_ {w : World} {a : Option Addr} {l : List (Int × Int)} (h : PairRow w a l) {i : Nat} (hi : i < l.length) :
    ∃ b off, a = some ⟨b, off, none⟩ ∧ w.cell? ⟨b, off + i * 2, none⟩ = some (.int .u16 (l.getD i (0, 0)).1) ∧ w.cell? ⟨b, off + i * 2 + 1, none⟩ = some (.int .u16 (l.getD i (0, 0)).2) := by
  rcases h with h | ⟨b, off, h, hc⟩
  · subst h; simp at hi
  · exact ⟨b, off, h, hc i hi⟩

/-- What is done: its kind, the text, the place. -/
structure Op where
  kind : Int
  text : ByteArray
  at_ : Int
instance : Inhabited Op := ⟨⟨0, ⟨#[]⟩, 0⟩⟩
/-- The things done, in memory: three cells each. -/
def OpRow (w : World) (a : Option Addr) (ops : List Op) : Prop :=
  ops = [] ∨ ∃ b off, a = some ⟨b, off, none⟩ ∧ ∀ i, i < ops.length → w.cell? ⟨b, off + i * 3, none⟩ = some (.int .i64 (ops.getD i default).kind) ∧ w.cell? ⟨b, off + i * 3 + 1, none⟩ = some (.string (ops.getD i default).text) ∧ w.cell? ⟨b, off + i * 3 + 2, none⟩ = some (.int .i64 (ops.getD i default).at_)
def OpsFit (_ : List Op) : Prop := True
def opFields : Array Field := #[⟨ "Kind", 3, 0, false, "", "", 0⟩, ⟨ "S", 9, 1, false, "", "", 8⟩, ⟨ "I", 3, 2, false, "", "", 24⟩]
theorem opFields_off : ∀ (j : Nat) (f : Field), opFields[j]? = some f → f.offset = j ∧ Try.prog.cellsOf f.type = 1
  | 0, f, h => by cases h; exact ⟨rfl, by kernel_rfl⟩
  | 1, f, h => by cases h; exact ⟨rfl, by kernel_rfl⟩
  | 2, f, h => by cases h; exact ⟨rfl, by kernel_rfl⟩
  | j + 3, f, h => by simp [opFields] at h
theorem ops_of {H : Type} {enc : TypeId × Value → H} {w : World} {fuel : Nat} {a : Option Addr} {len cap : Nat} {x : DataW H × List MemPlace}
    (h : DataW.trod enc Try.prog w 0 (fun _ => true) true fuel 58 [.slice a len cap] = some x) : ∃ ops : List Op, ops.length = len ∧ OpRow w a ops ∧ OpsFit ops := by
  rcases open_rows (fs := opFields) Try.underlying58 Try.underlying65 opFields_off (by kernel_rfl) h with ⟨rfl, rfl, rfl⟩ | ⟨ad, rfl, hl, hm, hi⟩
  · exact ⟨[], rfl, .inl rfl, trivial⟩
  · have each : ∀ i, i < len → ∃ o : Op, w.cell? (ad.add (i * 3)) = some (.int .i64 o.kind) ∧ w.cell? (ad.add (i * 3 + 1)) = some (.string o.text) ∧ w.cell? (ad.add (i * 3 + 2)) = some (.int .i64 o.at_) := by
      intro i hlt
      obtain ⟨n, hf⟩ := hi i hlt
      obtain ⟨v0, y0, hc0, hr0⟩ := hf 0 _ rfl
      obtain ⟨v1, y1, hc1, hr1⟩ := hf 1 _ rfl
      obtain ⟨v2, y2, hc2, hr2⟩ := hf 2 _ rfl
      obtain ⟨z0, e0, _, _⟩ := DataW.trod_int Try.underlying3 hr0
      obtain ⟨s, e1, _, _⟩ := DataW.trod_string Try.underlying9 hr1
      obtain ⟨z2, e2, _, _⟩ := DataW.trod_int Try.underlying3 hr2
      simp at e0 e1 e2
      subst e0 e1 e2
      exact ⟨⟨z0, s, z2⟩, hc0, hc1, hc2⟩
    obtain ⟨ops, hlen, hops⟩ := list_of _ len each
    refine ⟨ops, hlen, ?_, trivial⟩
    by_cases h0 : len = 0
    · exact .inl (List.eq_nil_of_length_eq_zero (by omega))
    · right
      have hs : ad.spot = none := by
        have h1 := (hops 0 (by omega)).1
        simp only [Nat.zero_mul, Addr.add, if_true] at h1
        exact spot_none h1
      obtain ⟨b, off, sp⟩ := ad
      simp only at hs
      subst hs
      refine ⟨b, off, rfl, fun i hi => ?_⟩
      obtain ⟨h1, h2, h3⟩ := hops i (by omega)
      rw [add_plain] at h1 h2 h3
      exact ⟨h1, by rw [Nat.add_assoc]; exact h2, by rw [Nat.add_assoc]; exact h3⟩
theorem OpRow.at_ {w : World} {a : Option Addr} {ops : List Op} (h : OpRow w a ops) {i : Nat} (hi : i < ops.length) :
    ∃ b off, a = some ⟨b, off, none⟩ ∧ w.cell? ⟨b, off + i * 3, none⟩ = some (.int .i64 (ops.getD i default).kind) ∧ w.cell? ⟨b, off + i * 3 + 1, none⟩ = some (.string (ops.getD i default).text) ∧ w.cell? ⟨b, off + i * 3 + 2, none⟩ = some (.int .i64 (ops.getD i default).at_) := by
  rcases h with h | ⟨b, off, h, hc⟩
  · subst h; simp at hi
  · exact ⟨b, off, h, hc i hi⟩
end Go.Proofs.Ytmdbpnpbohmofaa.M

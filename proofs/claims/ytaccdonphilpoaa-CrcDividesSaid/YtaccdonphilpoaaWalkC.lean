/- Walked: the reference's Sum; and the words for the one region of works whose order is open. Conditions: as at crc.Extend. -/
import Derived.Test.YtaccdonphilpoaaWalkB
import Derived.Deep.RegionWith
import Derived.Laws.IdiomStrings
namespace Go.Proofs.Ytaccdonphilpoaa
open Go.RowKit M
set_option linter.unusedVariables false
set_option linter.unusedSimpArgs false

theorem refSum_any (A : Option Addr) (l : List Int) (cap : Nat) (w : World) (hl : l.length ≤ 1000000) (hr : Row .u8 w A l) (hb : Bytes l) :
    Calls Try.prog 18 #[.slice A l.length cap] w fun e w' => e = .returned (.int .u32 (sumOf 0 l)) ∧ w = w' := by
  have HR := Lib.hid hr
  have HB := Lib.hid hb
  clear hr hb
  go_enter Try.func18, Try.ntmps18
  go_wp2_with (go_at_call 12; refine (refExtend_any _ _ _ _ _ (by omega) HR.out HB.out (by omega)).mono ?_; rintro e w' ⟨rfl, rfl⟩)
  go_ret
  exact ⟨rfl, rfl⟩

def zeros12 : List Int := [0, 0, 0, 0, 0, 0, 0, 0, 0, 0, 0, 0]
theorem sum_lit (l : List Int) (n cap : Nat) (r : Int) (hn : l.length = n) (he : sumOf 0 l = r) (A : Option Addr) (w : World) (hl : l.length ≤ 1000000) (hr : Row .u8 w A l) (hb : Bytes l) :
    Calls Try.prog 13 #[.slice A n cap] w fun e w' => e = .returned (.int .u32 r) ∧ w = w' := by
  subst hn he; exact sum_any A l cap w hl hr hb
theorem refSum_lit (l : List Int) (n cap : Nat) (r : Int) (hn : l.length = n) (he : sumOf 0 l = r) (A : Option Addr) (w : World) (hl : l.length ≤ 1000000) (hr : Row .u8 w A l) (hb : Bytes l) :
    Calls Try.prog 18 #[.slice A n cap] w fun e w' => e = .returned (.int .u32 r) ∧ w = w' := by
  subst hn he; exact refSum_any A l cap w hl hr hb
theorem ext_lit (s : Int) (l : List Int) (n cap : Nat) (r : Int) (hn : l.length = n) (he : sumOf s l = r) (A : Option Addr) (w : World) (hl : l.length ≤ 1000000) (hr : Row .u8 w A l) (hb : Bytes l) (hs : 0 ≤ s ∧ s ≤ 4294967295) :
    Calls Try.prog 11 #[.int .u32 s, .slice A n cap] w fun e w' => e = .returned (.int .u32 r) ∧ w = w' := by
  subst hn he; exact extend_any s A l cap w hl hr hb hs

/-- A block turned to another object, in place. -/
def frz (w : World) (b : Nat) (o : Obj) : World := { w with heap := w.heap.setIfInBounds b o }
theorem heapFr (w : World) (b : Nat) (o : Obj) : (frz w b o).heap = w.heap.setIfInBounds b o := rfl
theorem row_nil (k : IntKind) (w : World) (A : Option Addr) : Row k w A [] := .inl rfl
theorem below_frz {B : Nat} {a w : World} (h : Below B a w) {b : Nat} (hb : B ≤ b) (o : Obj) : Below B a (frz w b o) :=
  h.trans ⟨rfl, rfl, rfl, by simp [frz], fun k hk => by show (w.heap.setIfInBounds b o)[k]? = _; rw [Array.getElem?_setIfInBounds_ne (by omega)]⟩
/-- '[]byte' of a constant string: the row's mark, one place behind its last cell. -/
theorem run_mark (w : World) (b n c : Nat) (C : Array Value) (h : w.heap[b]? = some (.cells C 5 (0, 0))) :
    (convert 22 22 (.slice (some ⟨b, 0, none⟩) n c)).run Try.prog w = .ok (.slice (some ⟨b, 0, none⟩) n c) (frz w b (.cells C 5 (C.size, C.size + 1))) := by
  have hsh : w.shape? b = some (5, C.size) := by unfold World.shape?; rw [h]
  have hlt : b < w.heap.size := by
    rcases Nat.lt_or_ge b w.heap.size with h' | h'
    · exact h'
    · rw [Array.getElem?_eq_none h'] at h; exact absurd h (by simp)
  have hfr : ∀ (k : Nat), w.freeze ⟨b, k, none⟩ 1 = frz w b (.cells C 5 (k, k + 1)) := fun k => by
    unfold World.freeze frz
    rw [if_neg (by decide)]
    congr 1
    apply Array.ext
    · simp
    · intro i h1 h2
      rw [Array.getElem_modify]
      by_cases e : b = i
      · subst e
        have e2 : w.heap[b] = .cells C 5 (0, 0) := by
          have := h; rw [Array.getElem?_eq_getElem hlt] at this; exact Option.some.inj this
        simp [e2]
      · rw [Array.getElem_setIfInBounds (by simpa using h2)]; simp [e]
  simp [convert, run_underlying Try.underlying22, run_underlying Try.underlying5, markStringish, hsh]
  exact hfr _
def c1234 : Array Value := #[.int .u8 49, .int .u8 50, .int .u8 51, .int .u8 52]
def c56789 : Array Value := #[.int .u8 53, .int .u8 54, .int .u8 55, .int .u8 56, .int .u8 57]

theorem merge {P : Program} {md : Region.Mode} {ops : Array Oper} {Q : Exit → Act → World → Prop} {fuel : Nat} {l : Array Bool} {a : Act} {w : World} (Mid : Act → World → Prop) (f2 : Nat) (l2 : Array Bool)
    (h2 : ∀ a w, Mid a w → wpAny P md ops Q f2 l2 a w) (h1 : Hid (∀ a w, Mid a w → wpAny P md ops Q f2 l2 a w) → wpAny P md ops Q fuel l a w) : wpAny P md ops Q fuel l a w := h1 h2
theorem wpAny_listed {P : Program} {md : Region.Mode} {ops : Array Oper} {Q : Exit → Act → World → Prop} {fuel : Nat} {l l2 : Array Bool} {a : Act} {w : World} (h : l = l2)
    (hw : wpAny P md ops Q fuel l2 a w) : wpAny P md ops Q fuel l a w := h ▸ hw

end Go.Proofs.Ytaccdonphilpoaa

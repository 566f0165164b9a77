/- A delay and the reference's, side by side: what each call makes of the two. -/
import Derived.Test.YtjemamdldeeebaaWalkC
import Derived.Test.YtjemamdldeeebaaWalkS
import Derived.Test.YtjemamdldeeebaaWalkT
namespace Go.Proofs.Ytjemamdldeeebaa
open Go.RowKit M
set_option linter.unusedVariables false

/-- Nothing below has been turned since w0; there are no delays; or the program's is r, the reference's s. -/
def Pair (w0 w : World) (p q : Option Addr) (r s : R) : Prop := Below w0.heap.size w0 w ∧ ((p = none ∧ q = none) ∨
  ∃ b c, p = some ⟨b, 0, none⟩ ∧ q = some ⟨c, 0, none⟩ ∧ b ≠ c ∧ w0.heap.size ≤ b ∧ w0.heap.size ≤ c ∧ r.Ok ∧ s.Ok ∧ Held 45 w b r ∧ Held 47 w c s)
def whenOf : Option Addr → R → Int
  | none, _ => 0
  | some _, r => r.when
def someOf : Option Addr → R → Bool
  | none, _ => false
  | some _, r => r.some
def dueOf : Option Addr → R → Int → Bool
  | none, _, _ => false
  | some _, r, now => r.due now
section
variable {w0 w w' : World} {p q : Option Addr} {r s : R}
theorem drew_below (h : Below w0.heap.size w0 w) : Below w0.heap.size w0 w.drew := ⟨h.os, h.tape, h.output, h.size, h.block⟩
theorem Pair.drew (h : Pair w0 w p q r s) : Pair w0 w.drew p q r s := by
  obtain ⟨hb, h | ⟨b, c, h1, h2, h3, h4, h5, h6, h7, h8, h9⟩⟩ := h
  · exact ⟨drew_below hb, .inl h⟩
  · exact ⟨drew_below hb, .inr ⟨b, c, h1, h2, h3, h4, h5, h6, h7, h8.drew, h9.drew⟩⟩
theorem Pair.drewN (h : Pair w0 w p q r s) (k : Nat) : Pair w0 (w.drewN k) p q r s := by
  obtain ⟨hb, h | ⟨b, c, h1, h2, h3, h4, h5, h6, h7, h8, h9⟩⟩ := h
  · exact ⟨⟨hb.os, hb.tape, hb.output, hb.size, hb.block⟩, .inl h⟩
  · exact ⟨⟨hb.os, hb.tape, hb.output, hb.size, hb.block⟩, .inr ⟨b, c, h1, h2, h3, h4, h5, h6, h7, h8.drewN k, h9.drewN k⟩⟩
theorem Pair.below (h : Pair w0 w p q r s) (hb' : Below w.heap.size w w') : Pair w0 w' p q r s := by
  obtain ⟨hb, h | ⟨b, c, h1, h2, h3, h4, h5, h6, h7, h8, h9⟩⟩ := h
  · exact ⟨hb.trans (hb'.mono hb.size), .inl h⟩
  · exact ⟨hb.trans (hb'.mono hb.size), .inr ⟨b, c, h1, h2, h3, h4, h5, h6, h7, h8.below hb', h9.below hb'⟩⟩
theorem packetA (h : Pair w0 w p q r s) (now : Int) (v : Bool) :
    Calls Try.prog 12 #[.pointer p, .int .i64 now, .bool v] w fun e w' => e = .returned (.tuple #[]) ∧ Hid (Pair w0 w' p q (r.packet now v) s) := by
  obtain ⟨hb, ⟨rfl, rfl⟩ | ⟨b, c, rfl, rfl, h3, h4, h5, h6, h7, h8, h9⟩⟩ := h
  · exact (packet_nil now v w).mono fun _ _ ⟨he, hw⟩ => ⟨he, by subst hw; exact ⟨hb, .inl ⟨rfl, rfl⟩⟩⟩
  · exact (packet_any b r now v w h8 h6).mono fun _ _ ⟨he, hh⟩ => ⟨he, hb.grown hh.out.2 hb.size (fun k hk => by cases hk; exact h4), .inr ⟨b, c, rfl, rfl, h3, h4, h5, h6.packet now v, h7, hh.out.1, h9.other hh.out.2 (fun e => h3 e.symm)⟩⟩
theorem packetB (h : Pair w0 w p q r s) (now : Int) (v : Bool) :
    Calls Try.prog 13 #[.pointer q, .int .i64 now, .bool v] w fun e w' => e = .returned (.tuple #[]) ∧ Hid (Pair w0 w' p q r (s.packet now v)) := by
  obtain ⟨hb, ⟨rfl, rfl⟩ | ⟨b, c, rfl, rfl, h3, h4, h5, h6, h7, h8, h9⟩⟩ := h
  · exact (refPacket_nil now v w).mono fun _ _ ⟨he, hw⟩ => ⟨he, by subst hw; exact ⟨hb, .inl ⟨rfl, rfl⟩⟩⟩
  · exact (refPacket_any c s now v w h9 h7).mono fun _ _ ⟨he, hh⟩ => ⟨he, hb.grown hh.out.2 hb.size (fun k hk => by cases hk; exact h5), .inr ⟨b, c, rfl, rfl, h3, h4, h5, h6, h7.packet now v, h8.other hh.out.2 h3, hh.out.1⟩⟩
theorem sentA (h : Pair w0 w p q r s) :
    Calls Try.prog 14 #[.pointer p] w fun e w' => e = .returned (.tuple #[]) ∧ Hid (Pair w0 w' p q r.sent s) := by
  obtain ⟨hb, ⟨rfl, rfl⟩ | ⟨b, c, rfl, rfl, h3, h4, h5, h6, h7, h8, h9⟩⟩ := h
  · exact (sent_nil w).mono fun _ _ ⟨he, hw⟩ => ⟨he, by subst hw; exact ⟨hb, .inl ⟨rfl, rfl⟩⟩⟩
  · exact (sent_any b r w h8).mono fun _ _ ⟨he, hh⟩ => ⟨he, hb.grown hh.out.2 hb.size (fun k hk => by cases hk; exact h4), .inr ⟨b, c, rfl, rfl, h3, h4, h5, h6.sent, h7, hh.out.1, h9.other hh.out.2 (fun e => h3 e.symm)⟩⟩
theorem sentB (h : Pair w0 w p q r s) :
    Calls Try.prog 15 #[.pointer q] w fun e w' => e = .returned (.tuple #[]) ∧ Hid (Pair w0 w' p q r s.sent) := by
  obtain ⟨hb, ⟨rfl, rfl⟩ | ⟨b, c, rfl, rfl, h3, h4, h5, h6, h7, h8, h9⟩⟩ := h
  · exact (refSent_nil w).mono fun _ _ ⟨he, hw⟩ => ⟨he, by subst hw; exact ⟨hb, .inl ⟨rfl, rfl⟩⟩⟩
  · exact (refSent_any c s w h9).mono fun _ _ ⟨he, hh⟩ => ⟨he, hb.grown hh.out.2 hb.size (fun k hk => by cases hk; exact h5), .inr ⟨b, c, rfl, rfl, h3, h4, h5, h6, h7.sent, h8.other hh.out.2 h3, hh.out.1⟩⟩
theorem whenA (h : Pair w0 w p q r s) (x : Int) (y : Bool) (hx : whenOf p r = x) (hy : someOf p r = y) :
    Calls Try.prog 16 #[.pointer p] w fun e w' => e = .returned (.tuple #[.int .i64 x, .bool y]) ∧ Hid (Pair w0 w' p q r s) := by
  have h' := h
  subst hx hy
  obtain ⟨hb, ⟨rfl, rfl⟩ | ⟨b, c, rfl, rfl, h3, h4, h5, h6, h7, h8, h9⟩⟩ := h
  · exact (when_nil w).mono fun _ _ ⟨he, hw⟩ => ⟨he, h'.below hw⟩
  · exact (when_any b r w h8 h6).mono fun _ _ ⟨he, hh⟩ => ⟨he, h'.below hh⟩
theorem whenB (h : Pair w0 w p q r r) (x : Int) (y : Bool) (hx : whenOf p r = x) (hy : someOf p r = y) :
    Calls Try.prog 17 #[.pointer q] w fun e w' => e = .returned (.tuple #[.int .i64 x, .bool y]) ∧ Hid (Pair w0 w' p q r r) := by
  have h' := h
  subst hx hy
  obtain ⟨hb, ⟨rfl, rfl⟩ | ⟨b, c, rfl, rfl, h3, h4, h5, h6, h7, h8, h9⟩⟩ := h
  · exact (refWhen_nil w).mono fun _ _ ⟨he, hw⟩ => ⟨he, by subst hw; exact h'⟩
  · exact (refWhen_any c r w h9 h7).mono fun _ _ ⟨he, k, hh⟩ => ⟨he, by subst hh; exact h'.drewN k⟩
theorem dueA (h : Pair w0 w p q r s) (now : Int) (y : Bool) (hy : dueOf p r now = y) :
    Calls Try.prog 18 #[.pointer p, .int .i64 now] w fun e w' => e = .returned (.bool y) ∧ Hid (Pair w0 w' p q r s) := by
  have h' := h
  subst hy
  obtain ⟨hb, ⟨rfl, rfl⟩ | ⟨b, c, rfl, rfl, h3, h4, h5, h6, h7, h8, h9⟩⟩ := h
  · exact (due_nil now w).mono fun _ _ ⟨he, hw⟩ => ⟨he, h'.below hw⟩
  · exact (due_any b r now w h8 h6).mono fun _ _ ⟨he, hh⟩ => ⟨he, h'.below hh⟩
theorem dueB (h : Pair w0 w p q r r) (now : Int) (y : Bool) (hy : dueOf p r now = y) :
    Calls Try.prog 19 #[.pointer q, .int .i64 now] w fun e w' => e = .returned (.bool y) ∧ Hid (Pair w0 w' p q r r) := by
  have h' := h
  subst hy
  obtain ⟨hb, ⟨rfl, rfl⟩ | ⟨b, c, rfl, rfl, h3, h4, h5, h6, h7, h8, h9⟩⟩ := h
  · exact (refDue_nil now w).mono fun _ _ ⟨he, k, hw⟩ => ⟨he, by subst hw; exact h'.drewN k⟩
  · exact (refDue_any c r now w h9 h7).mono fun _ _ ⟨he, k, hh⟩ => ⟨he, by subst hh; exact h'.drewN k⟩
end
end Go.Proofs.Ytjemamdldeeebaa

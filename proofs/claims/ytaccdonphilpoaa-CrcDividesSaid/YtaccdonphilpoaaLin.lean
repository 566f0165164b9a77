/- Plain facts: how two registers differ behind the same bytes. No program in sight. -/
import Derived.Test.YtaccdonphilpoaaBits
namespace Go.Proofs.Ytaccdonphilpoaa.M

theorem step_xor (x y : BitVec 32) : step (x ^^^ y) = step x ^^^ step y := by
  unfold step
  rw [BitVec.getLsbD_xor, shr_xor]
  cases x.getLsbD 0 <;> cases y.getLsbD 0 <;> simp
  · exact BitVec.xor_assoc _ _ _
  · rw [BitVec.xor_assoc, BitVec.xor_comm (y >>> 1), ← BitVec.xor_assoc]
  · rw [BitVec.xor_assoc, BitVec.xor_comm poly, BitVec.xor_assoc, BitVec.xor_self, BitVec.xor_zero]
theorem fwd_xor (x y : BitVec 32) (p q : Bool) : fwd x p ^^^ fwd y q = fwd (x ^^^ y) (p ^^ q) := by
  have h : ∀ (x : BitVec 32) (p : Bool), fwd x p = step x ^^^ (if p then poly else 0#32) := by
    intro x p
    unfold fwd step
    cases x.getLsbD 0 <;> cases p <;> simp
    rw [BitVec.xor_assoc, BitVec.xor_self, BitVec.xor_zero]
  rw [h, h, h, step_xor]
  cases p <;> cases q <;> simp
  · exact BitVec.xor_assoc _ _ _ |>.symm
  · rw [BitVec.xor_assoc, BitVec.xor_comm poly, ← BitVec.xor_assoc]
  · rw [BitVec.xor_assoc, BitVec.xor_comm poly, BitVec.xor_assoc, BitVec.xor_self, BitVec.xor_zero]
/-- Two runs, added up. -/
theorem run_xor (x y : BitVec 32) (f g : Nat → Bool) : ∀ n, run x f n ^^^ run y g n = run (x ^^^ y) (fun i => f i ^^ g i) n
  | 0 => rfl
  | n + 1 => by rw [run, run, fwd_xor, run_xor x y f g n, run]
theorem run_diff (x y : BitVec 32) (f : Nat → Bool) (n : Nat) : run x f n ^^^ run y f n = run (x ^^^ y) (fun _ => false) n := by
  rw [run_xor]
  exact run_congr _ _ _ _ fun i _ => by simp
theorem run_zero (f : Nat → Bool) : ∀ n, (∀ i, i < n → f i = false) → run 0#32 f n = 0#32
  | 0, _ => rfl
  | n + 1, h => by
    rw [run, run_zero f n (fun i hi => h i (by omega)), h n (by omega)]
    rfl
theorem not_xor_not (x y : BitVec 32) : ~~~ x ^^^ ~~~ y = x ^^^ y := by
  apply BitVec.eq_of_getLsbD_eq
  intro i hi
  rw [BitVec.getLsbD_xor, BitVec.getLsbD_xor, BitVec.getLsbD_not, BitVec.getLsbD_not]
  simp [hi]
/-- How two sums differ. -/
theorem sums_diff (s t : Int) (l : List Int) (hb : Bytes l) : Go.bits .xor .u32 (sumOf s l) (sumOf t l) = ((run (b32 s ^^^ b32 t) (fun _ => false) (8 * l.length)).toNat : Int) := by
  rw [bits_xor]
  simp only [sumOf, b32_toNat]
  rw [not_xor_not, ext_run _ _ hb, ext_run _ _ hb, run_diff, not_xor_not]
theorem sums_same {s t : Int} {l c : List Int} (hb : Bytes l) (hc : Bytes c) (hlen : c.length = l.length) : Go.bits .xor .u32 (sumOf s c) (sumOf t c) = Go.bits .xor .u32 (sumOf s l) (sumOf t l) := by
  rw [sums_diff s t l hb, sums_diff s t c hc, hlen]
theorem sums_eq {s t : Int} {l : List Int} (h : s = t) : Go.bits .xor .u32 (sumOf s l) (sumOf t l) = 0 := by
  subst h
  rw [bits_xor, BitVec.xor_self]; rfl
theorem sums_ne {s t : Int} {l : List Int} (hb : Bytes l) (hs : 0 ≤ s ∧ s ≤ 4294967295) (ht : 0 ≤ t ∧ t ≤ 4294967295) (h : s ≠ t) : Go.bits .xor .u32 (sumOf s l) (sumOf t l) ≠ 0 := by
  intro h0
  rw [bits_xor] at h0
  simp only [sumOf, b32_toNat] at h0
  have h1 : ∀ x y : BitVec 32, ((x ^^^ y).toNat : Int) = 0 → x = y := by
    intro x y hxy
    have h2 : x ^^^ y = 0#32 := BitVec.eq_of_toNat_eq (by simp only [BitVec.toNat_ofNat]; omega)
    have h3 : x = (x ^^^ y) ^^^ y := by rw [BitVec.xor_assoc, BitVec.xor_self, BitVec.xor_zero]
    rw [h2, BitVec.zero_xor] at h3
    exact h3
  exact h (sumOf_inj hb hs ht (by rw [sumOf, sumOf, h1 _ _ h0]))
theorem sumOf_append (s : Int) (a b : List Int) : sumOf (sumOf s a) b = sumOf s (a ++ b) := by
  simp only [sumOf, b32_toNat, not_not, ext, List.foldl_append]
theorem xor_byte (c t : Int) : 0 ≤ Go.bits .xor .u8 c t ∧ Go.bits .xor .u8 c t ≤ 255 := by
  show 0 ≤ IntKind.u8.wrap _ ∧ IntKind.u8.wrap _ ≤ 255
  rw [IntKind.wrap_u8]; omega
theorem Bytes.set {l : List Int} (h : Bytes l) (i : Nat) {v : Int} (hv : 0 ≤ v ∧ v ≤ 255) : Bytes (l.set i v) := by
  intro n hn
  rcases List.mem_or_eq_of_mem_set hn with h1 | h1
  · exact h n h1
  · subst h1; exact hv
theorem Bytes.zeros (n : Nat) : Bytes (List.replicate n 0) := by
  intro m hm
  have := List.eq_of_mem_replicate hm
  omega
end Go.Proofs.Ytaccdonphilpoaa.M

/- Plain facts: unlike bits within 32 in a row leave unlike registers. No program in sight. -/
import Derived.Test.YtaccdonphilpoaaLin
namespace Go.Proofs.Ytaccdonphilpoaa.M

theorem back_bits (f : Nat → Bool) (m : Nat) (hm : m ≤ 32) (h : run 0#32 f m = 0#32) : ∀ j, j ≤ m → ∀ i, i < 32 → (run 0#32 f (m - j)).getLsbD i = (decide (i < j) && f (m - j + i))
  | 0, _ => fun i _ => by rw [Nat.sub_zero, h]; simp
  | j + 1, hj => by
    have ih := back_bits f m hm h j (by omega)
    have e1 : m - j = (m - (j + 1)) + 1 := by omega
    have e2 : run 0#32 f (m - (j + 1)) = bk (run 0#32 f (m - j)) (f (m - (j + 1))) := by
      rw [e1, run, bk_fwd]
    have h31 : (run 0#32 f (m - j)).getLsbD 31 = false := by
      rw [ih 31 (by omega)]
      have : ¬ 31 < j := by omega
      simp [this]
    intro i hi
    rw [e2]
    unfold bk clr
    rw [h31, if_neg (by simp), BitVec.getLsbD_or, low_bit, BitVec.getLsbD_shiftLeft]
    by_cases h0 : i = 0
    · subst h0; simp
    · rw [ih (i - 1) (by omega)]
      have e3 : m - j + (i - 1) = m - (j + 1) + i := by omega
      rw [e3]
      have e4 : (decide (i - 1 < j)) = decide (i < j + 1) := by
        rw [decide_eq_decide]; omega
      have e5 : ¬ i < 1 := by omega
      simp [hi, h0, e4, e5]
theorem burst (f : Nat → Bool) (m : Nat) (hm : m ≤ 32) (h1 : 1 ≤ m) (hf : f 0 = true) : run 0#32 f m ≠ 0#32 := by
  intro h
  have := back_bits f m hm h m (Nat.le_refl _) 0 (by omega)
  rw [Nat.sub_self] at this
  simp [run, hf] at this
  omega

/-- What the first loop of CrcUnlike keeps: the first and the last place below i where the bits differ, or -1. -/
def Seen (d : Nat → Bool) (i : Nat) (F L : Int) : Prop :=
  (F = -1 ∧ L = -1 ∧ ∀ j, j < i → d j = false) ∨
  ∃ p q : Nat, F = p ∧ L = q ∧ p ≤ q ∧ q < i ∧ d p = true ∧ (∀ j, j < p → d j = false) ∧ (∀ j, q < j → j < i → d j = false)
theorem Seen.start (d : Nat → Bool) : Seen d 0 (-1) (-1) := .inl ⟨rfl, rfl, fun j h => absurd h (by omega)⟩
theorem Seen.no {d : Nat → Bool} {i : Nat} {F L : Int} (h : Seen d i F L) (hd : d i = false) : Seen d (i + 1) F L := by
  have stay : ∀ (P : Nat → Prop), (∀ j, P j → j < i → d j = false) → ∀ j, P j → j < i + 1 → d j = false := by
    intro P hP j hj hlt
    by_cases e : j = i
    · rw [e]; exact hd
    · exact hP j hj (by omega)
  rcases h with ⟨h1, h2, h3⟩ | ⟨p, q, h1, h2, h3, h4, h5, h6, h7⟩
  · exact .inl ⟨h1, h2, fun j hj => stay (fun _ => True) (fun j _ h => h3 j h) j trivial hj⟩
  · exact .inr ⟨p, q, h1, h2, h3, by omega, h5, h6, stay (fun j => q < j) h7⟩
theorem Seen.first {d : Nat → Bool} {i : Nat} {F L : Int} (h : Seen d i F L) (hd : d i = true) (hF : F < 0) : Seen d (i + 1) i i := by
  rcases h with ⟨h1, h2, h3⟩ | ⟨p, q, h1, _⟩
  · exact .inr ⟨i, i, rfl, rfl, Nat.le_refl _, by omega, hd, h3, fun j h1 h2 => absurd h1 (by omega)⟩
  · omega
theorem Seen.last {d : Nat → Bool} {i : Nat} {F L : Int} (h : Seen d i F L) (hF : ¬ F < 0) : Seen d (i + 1) F i := by
  rcases h with ⟨h1, h2, h3⟩ | ⟨p, q, h1, h2, h3, h4, h5, h6, h7⟩
  · omega
  · exact .inr ⟨p, i, h1, rfl, by omega, by omega, h5, h6, fun j h1 h2 => absurd h1 (by omega)⟩
theorem Seen.bounds {d : Nat → Bool} {i : Nat} {F L : Int} (h : Seen d i F L) : -1 ≤ F ∧ F < (i : Int) + 1 ∧ -1 ≤ L ∧ L < (i : Int) + 1 := by
  rcases h with ⟨h1, h2, h3⟩ | ⟨p, q, h1, h2, h3, h4, h5, h6, h7⟩ <;> omega

def diff (a b : List Int) (i : Nat) : Bool := textBit a i ^^ textBit b i
theorem not_eq {x y : BitVec 32} (h : (((~~~ x).toNat : Nat) : Int) = ((~~~ y).toNat : Nat)) : x = y := by
  have h1 := congrArg (~~~ ·) (toNat_inj h)
  simpa only [not_not] using h1
theorem sums_like {a b : List Int} {F L : Int} (ha : Bytes a) (hb : Bytes b) (hlen : a.length = b.length) (h : Seen (diff a b) (8 * a.length) F L) (hF : F < 0) : sumOf 0 a = sumOf 0 b := by
  rcases h with ⟨_, _, h3⟩ | ⟨p, q, h1, _⟩
  · unfold sumOf
    rw [ext_run _ a ha, ext_run _ b hb, ← hlen]
    have e : run (~~~ b32 0) (textBit a) (8 * a.length) = run (~~~ b32 0) (textBit b) (8 * a.length) :=
      run_congr _ _ _ _ fun i hi => by
        have := h3 i hi
        unfold diff at this
        cases ha1 : textBit a i <;> cases hb1 : textBit b i <;> simp_all
    rw [e]
  · omega
theorem sums_unlike {a b : List Int} {F L : Int} (ha : Bytes a) (hb : Bytes b) (hlen : a.length = b.length) (h : Seen (diff a b) (8 * a.length) F L) (hF : ¬ F < 0) (hL : L - F < 32) : sumOf 0 a ≠ sumOf 0 b := by
  intro he
  unfold sumOf at he
  have h1 := not_eq he
  rw [ext_run _ a ha, ext_run _ b hb, ← hlen] at h1
  have h2 : run (~~~ b32 0) (textBit a) (8 * a.length) ^^^ run (~~~ b32 0) (textBit b) (8 * a.length) = 0#32 := by rw [h1, BitVec.xor_self]
  rw [run_xor, BitVec.xor_self] at h2
  change run 0#32 (diff a b) (8 * a.length) = 0#32 at h2
  rcases h with ⟨h3, _⟩ | ⟨p, q, rfl, rfl, hpq, hq, hp, h6, h7⟩
  · omega
  · have e1 : 8 * a.length = p + ((q + 1 - p) + (8 * a.length - (q + 1))) := by omega
    rw [e1, run_add, run_zero _ p h6, run_add] at h2
    have e2 : ∀ X, run X (fun i => diff a b (p + (q + 1 - p + i))) (8 * a.length - (q + 1)) = run X (fun _ => false) (8 * a.length - (q + 1)) := fun X =>
      run_congr _ _ _ _ fun i hi => h7 _ (by omega) (by omega)
    rw [e2] at h2
    have h8 := run_zero (fun _ => false) (8 * a.length - (q + 1)) (fun _ _ => rfl)
    have h9 := run_inj _ (h2.trans h8.symm)
    exact burst (fun i => diff a b (p + i)) (q + 1 - p) (by omega) (by omega) (by simpa using hp) h9
theorem bit_byte (x : Int) (j : Nat) (hx : 0 ≤ x ∧ x ≤ 255) : (Go.bits .and .u8 (x / 2 ^ j) 1 == 1) = bitOf x j := by
  rw [byte_bit x j hx]
  cases bitOf x j <;> rfl
theorem xor_bit (c e : Int) (j : Nat) (hc : 0 ≤ c ∧ c ≤ 255) (he : 0 ≤ e ∧ e ≤ 255) : bitOf (Go.bits .xor .u8 c e) j = (bitOf c j ^^ bitOf e j) := by
  obtain ⟨m, rfl⟩ := Int.eq_ofNat_of_zero_le hc.1
  obtain ⟨n, rfl⟩ := Int.eq_ofNat_of_zero_le he.1
  have bn : ∀ k : Nat, k ≤ 255 → bitOf (k : Int) j = k.testBit j := by
    intro k hk
    have h0 : (b32 (k : Int)).toNat = k := by simp only [b32, BitVec.toNat_ofInt]; omega
    rw [bitOf, BitVec.getLsbD, h0]
  have hx : Go.bits .xor .u8 (m : Int) (n : Int) = ((m ^^^ n : Nat) : Int) := by
    show IntKind.u8.wrap ((BitVec.ofInt 8 (m : Int) ^^^ BitVec.ofInt 8 (n : Int)).toNat : Int) = _
    have a1 : (BitVec.ofInt 8 (m : Int)).toNat = m := by simp only [BitVec.toNat_ofInt]; omega
    have a2 : (BitVec.ofInt 8 (n : Int)).toNat = n := by simp only [BitVec.toNat_ofInt]; omega
    have a3 : (BitVec.ofInt 8 (m : Int) ^^^ BitVec.ofInt 8 (n : Int)).toNat < 256 := (BitVec.ofInt 8 (m : Int) ^^^ BitVec.ofInt 8 (n : Int)).isLt
    rw [BitVec.toNat_xor, a1, a2] at *
    rw [IntKind.wrap_u8]; omega
  have h8 : m ^^^ n < 2 ^ 8 := Nat.xor_lt_two_pow (by omega) (by omega)
  rw [hx, bn _ (by omega), bn m (by omega), bn n (by omega), Nat.testBit_xor]
theorem diff_test {a b : List Int} {c e : Int} {m : Nat} (hc : 0 ≤ c ∧ c ≤ 255) (he : 0 ≤ e ∧ e ≤ 255) (hac : a.getD (m / 8) 0 = c) (hbe : b.getD (m / 8) 0 = e) :
    (Go.bits .and .u8 (Go.bits .xor .u8 c e / 2 ^ (m % 8)) 1 == 1) = diff a b m := by
  rw [bit_byte _ _ (xor_byte c e), xor_bit c e _ hc he, diff, textBit, textBit, hac, hbe]
end Go.Proofs.Ytaccdonphilpoaa.M

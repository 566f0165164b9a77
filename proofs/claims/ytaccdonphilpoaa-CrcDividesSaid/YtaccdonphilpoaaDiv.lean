/- Plain facts: the register as a division without carries: the bits at hand are the register's and the text's, added up. No program in sight. -/
import Derived.Test.YtaccdonphilpoaaBurst
import Derived.Test.YtaccdonphilpoaaMem
namespace Go.Proofs.Ytaccdonphilpoaa.M
set_option linter.unusedSimpArgs false

def bi (p : Bool) : Int := if p then 1 else 0
theorem bi_cases (p : Bool) : bi p = 0 ∨ bi p = 1 := by cases p <;> simp [bi]
/-- A row of noughts and ones. -/
def Bit01 (z : List Int) (f : Nat → Bool) : Prop := ∀ j, j < z.length → z.getD j 0 = bi (f j)
theorem Bit01.set {z : List Int} {f g : Nat → Bool} {i : Nat} {v : Int} (h : Bit01 z f) (hv : v = bi (g i)) (hg : ∀ j, j ≠ i → g j = f j) : Bit01 (z.set i v) g := by
  intro j hj
  rw [List.length_set] at hj
  by_cases e : i = j
  · subst e; rw [getD_set hj, if_pos rfl]; exact hv
  · by_cases hi : i < z.length
    · rw [getD_set hi, if_neg e, h j hj, hg j (fun h => e h.symm)]
    · rw [List.set_eq_of_length_le (by omega), h j hj, hg j (fun h => e h.symm)]
theorem Bit01.congr {z : List Int} {f g : Nat → Bool} (h : Bit01 z f) (hg : ∀ j, j < z.length → g j = f j) : Bit01 z g := fun j hj => by rw [h j hj, hg j hj]

/-- The text's bits, and noughts behind. -/
def full (l : List Int) (j : Nat) : Bool := decide (j < 8 * l.length) && textBit l j
/-- The register behind i steps. -/
def reg (l : List Int) (i : Nat) : BitVec 32 := run (BitVec.allOnes 32) (textBit l) i
theorem reg_succ {l : List Int} {i : Nat} (hi : i < 8 * l.length) : reg l (i + 1) = fwd (reg l i) (full l i) := by
  have : full l i = textBit l i := by simp [full, hi]
  rw [this]; rfl
/-- The bits at hand, from place i on. -/
def Hand (l : List Int) (i : Nat) (f : Nat → Bool) : Prop := ∀ j, i ≤ j → f j = ((reg l i).getLsbD (j - i) ^^ full l j)
theorem Hand.at_ {l : List Int} {i : Nat} {f : Nat → Bool} (h : Hand l i f) : f i = ((reg l i).getLsbD 0 != full l i) := by
  have := h i (Nat.le_refl _)
  rw [Nat.sub_self] at this
  exact this
theorem Hand.start {l : List Int} {f : Nat → Bool} (h : ∀ j, f j = (full l j ^^ decide (j < 32))) : Hand l 0 f := by
  intro j _
  show f j = ((BitVec.allOnes 32).getLsbD (j - 0) ^^ full l j)
  rw [h, BitVec.getLsbD_allOnes, Nat.sub_zero]
  cases full l j <;> cases decide (j < 32) <;> rfl
theorem Hand.no {l : List Int} {i : Nat} {f : Nat → Bool} (h : Hand l i f) (hi : i < 8 * l.length) (hf : f i = false) : Hand l (i + 1) f := by
  intro j hj
  rw [h j (by omega), reg_succ hi]
  rw [h.at_] at hf
  unfold fwd
  rw [hf, if_neg (by simp), BitVec.getLsbD_ushiftRight]
  have e : 1 + (j - (i + 1)) = j - i := by omega
  rw [e]
/-- The bits while the divisor is taken away: the first k - 1 places behind i are done. -/
def part (f : Nat → Bool) (i k j : Nat) : Bool := f j ^^ (decide (i < j ∧ j < i + k) && poly.getLsbD (j - i - 1))
theorem part_zero (f : Nat → Bool) (i j : Nat) : part f i 0 j = f j := by
  have : ¬ (i < j ∧ j < i + 0) := by omega
  rw [part, decide_eq_false this, Bool.false_and, Bool.xor_false]
theorem part_one (f : Nat → Bool) (i j : Nat) : part f i 1 j = f j := by
  have : ¬ (i < j ∧ j < i + 1) := by omega
  rw [part, decide_eq_false this, Bool.false_and, Bool.xor_false]
theorem part_succ (f : Nat → Bool) (i k j : Nat) (hj : j ≠ i + k) : part f i (k + 1) j = part f i k j := by
  have : decide (i < j ∧ j < i + (k + 1)) = decide (i < j ∧ j < i + k) := by rw [decide_eq_decide]; omega
  simp only [part, this]
theorem part_here (f : Nat → Bool) (i k : Nat) (hk : 0 < k) : part f i (k + 1) (i + k) = (part f i k (i + k) ^^ poly.getLsbD (k - 1)) := by
  have h1 : (i < i + k ∧ i + k < i + (k + 1)) := by omega
  have h2 : ¬ (i < i + k ∧ i + k < i + k) := by omega
  have h3 : i + k - i - 1 = k - 1 := by omega
  rw [part, part, decide_eq_true h1, decide_eq_false h2, h3]
  cases f (i + k) <;> cases poly.getLsbD (k - 1) <;> rfl
theorem part_at (f : Nat → Bool) (i k : Nat) : part f i k i = f i := by
  have : ¬ (i < i ∧ i < i + k) := by omega
  rw [part, decide_eq_false this, Bool.false_and, Bool.xor_false]
theorem Hand.yes {l : List Int} {i : Nat} {f : Nat → Bool} (h : Hand l i f) (hi : i < 8 * l.length) (hf : f i = true) : Hand l (i + 1) (part f i 33) := by
  intro j hj
  rw [reg_succ hi]
  rw [h.at_] at hf
  unfold fwd part
  rw [hf, if_pos rfl, BitVec.getLsbD_xor, BitVec.getLsbD_ushiftRight, h j (by omega)]
  have e : 1 + (j - (i + 1)) = j - i := by omega
  have e2 : j - (i + 1) = j - i - 1 := by omega
  rw [e, e2]
  by_cases hlt : j < i + 33
  · have h1 : (i < j ∧ j < i + 33) := by omega
    simp only [h1, and_self, decide_true, Bool.true_and]
    cases (reg l i).getLsbD (j - i) <;> cases full l j <;> cases poly.getLsbD (j - i - 1) <;> rfl
  · have h1 : ¬ (i < j ∧ j < i + 33) := by omega
    have h2 : poly.getLsbD (j - i - 1) = false := BitVec.getLsbD_of_ge _ _ (by omega)
    simp only [h1, h2, decide_false, Bool.false_and, Bool.xor_false]
/-- The divisor's own bits. -/
theorem by_bit (k : Nat) (h0 : 0 < k) (hk : k ≤ 32) : Go.bits .and .u64 (4812730177 / 2 ^ (32 - k)) 1 = bi (poly.getLsbD (k - 1)) := by
  have h : ∀ k : Fin 33, 0 < k.val → Go.bits .and .u64 (4812730177 / 2 ^ (32 - k.val)) 1 = bi (poly.getLsbD (k.val - 1)) := by decide +kernel
  exact h ⟨k, by omega⟩ h0
theorem xor_bi (p q : Bool) : Go.bits .xor .u8 (bi p) (bi q) = bi (p ^^ q) := by cases p <;> cases q <;> decide
theorem turn_bi (p : Bool) : 1 - bi p = bi (p ^^ true) := by cases p <;> rfl
theorem turn_bi' (p : Bool) : 1 - bi p = bi (!p) := by cases p <;> rfl

/-- The sum so far: the first k bits of the register, turned. -/
def Low (x : BitVec 32) (k : Nat) (s : Int) : Prop := ∃ S : BitVec 32, s = (S.toNat : Int) ∧ ∀ j, j < 32 → S.getLsbD j = (decide (j < k) && !x.getLsbD j)
theorem Low.start (x : BitVec 32) : Low x 0 0 := ⟨0#32, rfl, fun j _ => by simp⟩
theorem Low.next {x : BitVec 32} {k : Nat} {s : Int} (h : Low x k s) (hk : k < 32) : Low x (k + 1) (Go.bits .or .u32 s (bi (!x.getLsbD k) * 2 ^ k % 4294967296)) := by
  obtain ⟨S, rfl, hS⟩ := h
  rw [bits_or, b32_toNat]
  refine ⟨_, rfl, fun j hj => ?_⟩
  have e : b32 (bi (!x.getLsbD k) * 2 ^ k % 4294967296) = if x.getLsbD k then 0#32 else 1#32 <<< k := by
    cases x.getLsbD k
    · apply BitVec.eq_of_toNat_eq
      have h2 : (2 : Nat) ^ k < 2 ^ 32 := Nat.pow_lt_pow_right (by decide) hk
      have h2' : ((2 ^ k : Nat) : Int) < 4294967296 := by omega
      have h3 : bi (!false) * 2 ^ k % 4294967296 = ((2 ^ k : Nat) : Int) := by
        show 1 * 2 ^ k % 4294967296 = _
        rw [Int.one_mul, ← show ((2 ^ k : Nat) : Int) = 2 ^ k from Int.natCast_pow 2 k]
        exact Int.emod_eq_of_lt (Int.natCast_nonneg _) h2'
      rw [h3]
      simp only [Bool.false_eq_true, if_false]
      rw [BitVec.toNat_shiftLeft, Nat.shiftLeft_eq]
      simp only [b32, BitVec.toNat_ofInt, BitVec.toNat_ofNat]
      omega
    · simp [bi, b32]
  rw [e, BitVec.getLsbD_or, hS j hj]
  by_cases hjk : j = k
  · subst hjk
    cases hx : x.getLsbD j <;> simp [hx, hj]
  · have e1 : decide (j < k + 1) = decide (j < k) := by rw [decide_eq_decide]; omega
    rw [e1]
    cases x.getLsbD k
    · have : ¬ (j - k = 0 ∧ ¬ j < k) := by omega
      simp [hj]
      intro h1 h2
      omega
    · simp
theorem Low.done {x : BitVec 32} {s : Int} (h : Low x 32 s) : s = ((~~~ x).toNat : Int) := by
  obtain ⟨S, rfl, hS⟩ := h
  congr 1
  congr 1
  apply BitVec.eq_of_getLsbD_eq
  intro i hi
  rw [hS i hi, BitVec.getLsbD_not]
theorem sum_reg (l : List Int) (hb : Bytes l) : sumOf 0 l = ((~~~ reg l (8 * l.length)).toNat : Int) := by
  unfold sumOf reg
  rw [ext_run _ l hb, show ~~~ b32 0 = BitVec.allOnes 32 by decide]
theorem Hand.done {l : List Int} {f : Nat → Bool} (h : Hand l (8 * l.length) f) (k : Nat) : f (8 * l.length + k) = (reg l (8 * l.length)).getLsbD k := by
  rw [h _ (by omega)]
  have e : 8 * l.length + k - 8 * l.length = k := by omega
  have e2 : ¬ 8 * l.length + k < 8 * l.length := by omega
  rw [e, full]
  simp [e2]
end Go.Proofs.Ytaccdonphilpoaa.M

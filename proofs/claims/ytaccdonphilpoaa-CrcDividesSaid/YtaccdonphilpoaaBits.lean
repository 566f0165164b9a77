/- Plain facts on the register, bit by bit: forwards, and back. No program in sight. -/
import Derived.Test.YtaccdonphilpoaaMath
namespace Go.Proofs.Ytaccdonphilpoaa.M

/-- One step with an input bit, and the step back. -/
def fwd (x : BitVec 32) (p : Bool) : BitVec 32 := if x.getLsbD 0 != p then (x >>> 1) ^^^ poly else x >>> 1
def low (p : Bool) : BitVec 32 := if p then 1#32 else 0#32
def clr (r : BitVec 32) : BitVec 32 := if r.getLsbD 31 then r ^^^ poly else r
def bk (r : BitVec 32) (p : Bool) : BitVec 32 := (clr r <<< 1) ||| low (r.getLsbD 31 ^^ p)

theorem low_bit (p : Bool) (i : Nat) : (low p).getLsbD i = (decide (i = 0) && p) := by
  cases p
  · simp [low]
  · simp only [low, if_true, Bool.and_true]
    by_cases h : i = 0
    · subst h; rfl
    · rw [BitVec.getLsbD_one]; simp [h]
theorem poly_31 : poly.getLsbD 31 = true := by decide
theorem clr_31 (r : BitVec 32) : (clr r).getLsbD 31 = false := by
  unfold clr
  split
  · rename_i h; rw [BitVec.getLsbD_xor, h, poly_31]; rfl
  · rename_i h; simpa using h
theorem bk_low (r : BitVec 32) (p : Bool) : (bk r p).getLsbD 0 = (r.getLsbD 31 ^^ p) := by
  unfold bk
  rw [BitVec.getLsbD_or, low_bit, BitVec.getLsbD_shiftLeft]
  simp
theorem bk_shr (r : BitVec 32) (p : Bool) : bk r p >>> 1 = clr r := by
  apply BitVec.eq_of_getLsbD_eq
  intro i hi
  unfold bk
  rw [BitVec.getLsbD_ushiftRight, BitVec.getLsbD_or, low_bit, BitVec.getLsbD_shiftLeft]
  by_cases h : i = 31
  · subst h; rw [clr_31]; simp
  · have e : 1 + i < 32 := by omega
    have e2 : 1 + i - 1 = i := by omega
    simp [e, e2]
theorem clr_back (r : BitVec 32) : (if r.getLsbD 31 then clr r ^^^ poly else clr r) = r := by
  unfold clr
  split
  · rw [BitVec.xor_assoc, BitVec.xor_self, BitVec.xor_zero]
  · rfl
theorem fwd_bk (r : BitVec 32) (p : Bool) : fwd (bk r p) p = r := by
  have h : ((r.getLsbD 31 ^^ p) != p) = r.getLsbD 31 := by cases r.getLsbD 31 <;> cases p <;> rfl
  unfold fwd
  rw [bk_low, h, bk_shr]
  exact clr_back r
theorem shr_31 (x : BitVec 32) : (x >>> 1).getLsbD 31 = false := by
  rw [BitVec.getLsbD_ushiftRight]
  exact BitVec.getLsbD_of_ge _ _ (by omega)
theorem fwd_31 (x : BitVec 32) (p : Bool) : (fwd x p).getLsbD 31 = (x.getLsbD 0 != p) := by
  unfold fwd
  split
  · rename_i h; rw [BitVec.getLsbD_xor, shr_31, poly_31, h]; rfl
  · rename_i h; rw [shr_31]; simp at h; simp [h]
theorem clr_fwd (x : BitVec 32) (p : Bool) : clr (fwd x p) = x >>> 1 := by
  unfold clr
  rw [fwd_31]
  unfold fwd
  split
  · rw [BitVec.xor_assoc, BitVec.xor_self, BitVec.xor_zero]
  · rfl
theorem bk_fwd (x : BitVec 32) (p : Bool) : bk (fwd x p) p = x := by
  have h : ((x.getLsbD 0 != p) ^^ p) = x.getLsbD 0 := by cases x.getLsbD 0 <;> cases p <;> rfl
  unfold bk
  rw [clr_fwd, fwd_31, h]
  apply BitVec.eq_of_getLsbD_eq
  intro i hi
  rw [BitVec.getLsbD_or, low_bit, BitVec.getLsbD_shiftLeft, BitVec.getLsbD_ushiftRight]
  by_cases h0 : i = 0
  · subst h0; simp
  · have e : 1 + (i - 1) = i := by omega
    have e1 : ¬ i < 1 := by omega
    simp [hi, h0, e, e1]

/-- n steps with the bits f 0, f 1, .. -/
def run (x : BitVec 32) (f : Nat → Bool) : Nat → BitVec 32
  | 0 => x
  | n + 1 => fwd (run x f n) (f n)
theorem run_congr (x : BitVec 32) (f g : Nat → Bool) : ∀ n, (∀ i, i < n → f i = g i) → run x f n = run x g n
  | 0, _ => rfl
  | n + 1, h => by rw [run, run, run_congr x f g n (fun i hi => h i (by omega)), h n (by omega)]
theorem run_add (x : BitVec 32) (f : Nat → Bool) (n : Nat) : ∀ m, run x f (n + m) = run (run x f n) (fun i => f (n + i)) m
  | 0 => rfl
  | m + 1 => by rw [← Nat.add_assoc, run, run, run_add x f n m]
theorem run_inj {x y : BitVec 32} {f : Nat → Bool} : ∀ n, run x f n = run y f n → x = y
  | 0, h => h
  | n + 1, h => run_inj n (by
      have := congrArg (bk · (f n)) h
      simpa only [run, bk_fwd] using this)
theorem run_succ' (x : BitVec 32) (f : Nat → Bool) (n : Nat) : run x f (1 + n) = run (fwd x (f 0)) (fun i => f (1 + i)) n := run_add x f 1 n

def bitOf (c : Int) (j : Nat) : Bool := (b32 c).getLsbD j
def textBit (l : List Int) (i : Nat) : Bool := bitOf (l.getD (i / 8) 0) (i % 8)

theorem run_byte (x : BitVec 32) (c : Int) : ∀ m, run x (bitOf c) m = steps m (x ^^^ b32 c) ^^^ (b32 c >>> m)
  | 0 => by
    show x = (x ^^^ b32 c) ^^^ (b32 c >>> 0)
    rw [BitVec.ushiftRight_zero, BitVec.xor_assoc, BitVec.xor_self, BitVec.xor_zero]
  | m + 1 => by
    rw [run, run_byte x c m]
    show fwd _ _ = step (steps m (x ^^^ b32 c)) ^^^ (b32 c >>> (m + 1))
    generalize steps m (x ^^^ b32 c) = S
    have hb : (S ^^^ b32 c >>> m).getLsbD 0 = (S.getLsbD 0 ^^ bitOf c m) := by
      rw [BitVec.getLsbD_xor, BitVec.getLsbD_ushiftRight]; rfl
    have h : ((S.getLsbD 0 ^^ bitOf c m) != bitOf c m) = S.getLsbD 0 := by cases S.getLsbD 0 <;> cases bitOf c m <;> rfl
    unfold fwd step
    rw [hb, h, shr_xor, ← shr_succ]
    split
    · rw [BitVec.xor_assoc, BitVec.xor_assoc, BitVec.xor_comm poly]
    · rfl
theorem byteIn_run (x : BitVec 32) (c : Int) (hc : 0 ≤ c ∧ c ≤ 255) : byteIn x c = run x (bitOf c) 8 := by
  rw [run_byte, b32_byte c hc, BitVec.xor_zero]; rfl
theorem ext_run_take (x : BitVec 32) (l : List Int) (hb : Bytes l) : ∀ k, k ≤ l.length → ext x (l.take k) = run x (textBit l) (8 * k)
  | 0, _ => by simp [ext, run]
  | k + 1, h => by
    rw [ext_take x l k (by omega), byteIn_run _ _ (hb.getD k), ext_run_take x l hb k (by omega), Nat.mul_add, run_add]
    refine run_congr _ _ _ _ fun i hi => ?_
    have e1 : (8 * k + i) / 8 = k := by omega
    have e2 : (8 * k + i) % 8 = i := by omega
    simp only [textBit, e1, e2]
theorem ext_run (x : BitVec 32) (l : List Int) (hb : Bytes l) : ext x l = run x (textBit l) (8 * l.length) := by
  have := ext_run_take x l hb l.length (Nat.le_refl _)
  rwa [List.take_length] at this
theorem ext_inj {x y : BitVec 32} {l : List Int} (hb : Bytes l) (h : ext x l = ext y l) : x = y := by
  rw [ext_run x l hb, ext_run y l hb] at h
  exact run_inj _ h
theorem not_not (x : BitVec 32) : ~~~ ~~~ x = x := by simp
theorem b32_inj {s t : Int} (hs : 0 ≤ s ∧ s ≤ 4294967295) (ht : 0 ≤ t ∧ t ≤ 4294967295) (h : b32 s = b32 t) : s = t := by
  have := congrArg BitVec.toNat h
  simp only [b32, BitVec.toNat_ofInt] at this
  omega
theorem toNat_inj {x y : BitVec 32} (h : (x.toNat : Int) = y.toNat) : x = y := BitVec.eq_of_toNat_eq (by omega)
theorem sumOf_inj {s t : Int} {l : List Int} (hb : Bytes l) (hs : 0 ≤ s ∧ s ≤ 4294967295) (ht : 0 ≤ t ∧ t ≤ 4294967295) (h : sumOf s l = sumOf t l) : s = t := by
  have h1 := congrArg (~~~ ·) (toNat_inj h)
  simp only [not_not] at h1
  have h2 := congrArg (~~~ ·) (ext_inj hb h1)
  simp only [not_not] at h2
  exact b32_inj hs ht h2

/-! ### One round of 'behind' -/
theorem b32_dbl (Y : BitVec 32) : b32 ((Y.toNat : Int) * 2 % 4294967296) = Y <<< 1 := by
  apply BitVec.eq_of_toNat_eq
  rw [BitVec.toNat_shiftLeft, Nat.shiftLeft_eq]
  simp only [b32, BitVec.toNat_ofInt]
  have := Y.isLt
  omega
theorem top_bit (X : BitVec 32) : (X.toNat : Int) / 2147483648 = if X.getLsbD 31 then 1 else 0 := by
  have hlt := X.isLt
  have h : X.getLsbD 31 = decide (X.toNat / 2147483648 % 2 = 1) := by
    rw [BitVec.getLsbD, Nat.testBit_eq_decide_div_mod_eq]
  rw [h]
  by_cases h1 : X.toNat / 2147483648 % 2 = 1
  · rw [decide_eq_true h1, if_pos rfl]; omega
  · rw [decide_eq_false h1, if_neg (by simp)]; omega
theorem byte_bit (c : Int) (j : Nat) (hc : 0 ≤ c ∧ c ≤ 255) : Go.bits .and .u8 (c / 2 ^ j) 1 = if bitOf c j then 1 else 0 := by
  obtain ⟨n, rfl⟩ := Int.eq_ofNat_of_zero_le hc.1
  have e : ((n : Int) / 2 ^ j) = ((n / 2 ^ j : Nat) : Int) := by simp
  have hn : n / 2 ^ j ≤ n := Nat.div_le_self _ _
  have hb : bitOf (n : Int) j = decide (n / 2 ^ j % 2 = 1) := by
    have h0 : (b32 (n : Int)).toNat = n := by simp only [b32, BitVec.toNat_ofInt]; omega
    rw [bitOf, BitVec.getLsbD, h0, Nat.testBit_eq_decide_div_mod_eq]
  rw [hb, e]
  generalize hm : n / 2 ^ j = m
  have hm8 : m ≤ 255 := by omega
  have hbits : Go.bits .and .u8 (m : Int) 1 = ((m % 2 : Nat) : Int) := by
    show IntKind.u8.wrap ((BitVec.ofInt 8 (m : Int) &&& BitVec.ofInt 8 1).toNat : Int) = _
    have h1 : (BitVec.ofInt 8 (m : Int) &&& BitVec.ofInt 8 1).toNat = m % 2 := by
      rw [BitVec.toNat_and]
      have a1 : (BitVec.ofInt 8 (m : Int)).toNat = m := by simp only [BitVec.toNat_ofInt]; omega
      have a2 : (BitVec.ofInt 8 1).toNat = 1 := by decide
      rw [a1, a2, Nat.and_one_is_mod]
    rw [h1, IntKind.wrap_u8]
    omega
  rw [hbits]
  by_cases h : m % 2 = 1
  · rw [decide_eq_true h, if_pos rfl, h]; rfl
  · rw [decide_eq_false h, if_neg (by simp)]; omega
theorem low_of (q p : Bool) : (b32 (if q then 1 else 0) ^^^ b32 ((if p then (1 : Int) else 0) % 4294967296)) = low (q ^^ p) := by
  cases q <;> cases p <;> decide

theorem back_one {X c : Int} {R : BitVec 32} {j : Nat} (h : X = (R.toNat : Int)) (hc : 0 ≤ c ∧ c ≤ 255) (ht : (X / 2147483648 == 1) = true) :
    Go.bits .or .u32 (Go.bits .xor .u32 X 2197175160 * 2 % 4294967296) (Go.bits .xor .u32 (X / 2147483648) (Go.bits .and .u8 (c / 2 ^ j) 1 % 4294967296)) = ((bk R (bitOf c j)).toNat : Int) := by
  subst h
  have hr : R.getLsbD 31 = true := by
    rw [top_bit] at ht
    cases hq : R.getLsbD 31 <;> simp_all
  rw [bits_or, bits_xor, bits_xor, b32_dbl, b32_toNat, b32_toNat, byte_bit c j hc, top_bit, low_of]
  unfold bk clr
  rw [if_pos hr, show b32 2197175160 = poly by decide]
theorem back_nought {X c : Int} {R : BitVec 32} {j : Nat} (h : X = (R.toNat : Int)) (hc : 0 ≤ c ∧ c ≤ 255) (ht : (X / 2147483648 == 1) = false) :
    Go.bits .or .u32 (X * 2 % 4294967296) (Go.bits .xor .u32 (X / 2147483648) (Go.bits .and .u8 (c / 2 ^ j) 1 % 4294967296)) = ((bk R (bitOf c j)).toNat : Int) := by
  subst h
  have hr : ¬ R.getLsbD 31 = true := by
    rw [top_bit] at ht
    cases hq : R.getLsbD 31 <;> simp_all
  rw [bits_or, bits_xor, b32_dbl, b32_toNat, byte_bit c j hc, top_bit, low_of]
  unfold bk clr
  rw [if_neg hr]

/-- What 'behind' keeps: from place k on the steps lead to where it began. -/
def Back (s : Int) (l : List Int) (k : Int) (X : Int) : Prop :=
  ∃ R : BitVec 32, X = (R.toNat : Int) ∧ run R (fun i => textBit l ((k + 1).toNat + i)) (8 * l.length - (k + 1).toNat) = ~~~ b32 s
theorem Back.start {s : Int} {l : List Int} : Back s l (8 * (l.length : Int) - 1) (Go.bits .xor .u32 IntKind.u32.max s) := by
  refine ⟨~~~ b32 s, not_start s, ?_⟩
  have : 8 * l.length - (8 * (l.length : Int) - 1 + 1).toNat = 0 := by omega
  rw [this]; rfl
theorem Back.next {s X Y c : Int} {l : List Int} {m : Nat} (h : Back s l m X) (hm : (m : Int) < 8 * (l.length : Int)) (hcd : l.getD (m / 8) 0 = c)
    (hY : ∀ R : BitVec 32, X = (R.toNat : Int) → Y = ((bk R (bitOf c (m % 8))).toNat : Int)) : Back s l ((m : Int) - 1) Y := by
  obtain ⟨R, hR, hrun⟩ := h
  refine ⟨_, hY R hR, ?_⟩
  have e1 : ((m : Int) - 1 + 1).toNat = m := by omega
  have e2 : ((m : Int) + 1).toNat = m + 1 := by omega
  have e3 : 8 * l.length - m = 1 + (8 * l.length - (m + 1)) := by omega
  rw [e1, e3, run_succ']
  rw [e2] at hrun
  have e4 : textBit l (m + 0) = bitOf c (m % 8) := by rw [Nat.add_zero, textBit, hcd]
  simp only [e4, fwd_bk]
  rw [← hrun]
  refine run_congr _ _ _ _ fun i _ => ?_
  rw [Nat.add_assoc]
theorem Back.done {s X : Int} {l : List Int} {k : Int} (hk : k < 0) (hk1 : -1 ≤ k) (hb : Bytes l) (hs : 0 ≤ s ∧ s ≤ 4294967295) (h : Back s l k X) :
    0 ≤ Go.bits .xor .u32 IntKind.u32.max X ∧ Go.bits .xor .u32 IntKind.u32.max X ≤ 4294967295 ∧ sumOf (Go.bits .xor .u32 IntKind.u32.max X) l = s := by
  obtain ⟨R, hR, hrun⟩ := h
  obtain rfl : k = -1 := by omega
  rw [not_end hR]
  refine ⟨(range _).1, (range _).2, ?_⟩
  rw [sumOf, b32_toNat, not_not, ext_run _ _ hb]
  have e : run R (textBit l) (8 * l.length) = ~~~ b32 s := by
    rw [← hrun]
    refine run_congr _ _ _ _ fun i _ => ?_
    simp
  rw [e, not_not]
  simp only [b32, BitVec.toNat_ofInt]
  omega
end Go.Proofs.Ytaccdonphilpoaa.M

/- Plain facts on the register of the sum, over BitVec 32: no program in sight. -/
import Derived.Lib.Hide
import Derived.Laws.Entries
namespace Go.Proofs.Ytaccdonphilpoaa.M

def poly : BitVec 32 := 0x82f63b78#32
def step (x : BitVec 32) : BitVec 32 := if x.getLsbD 0 then (x >>> 1) ^^^ poly else x >>> 1
def steps : Nat → BitVec 32 → BitVec 32
  | 0, x => x
  | n + 1, x => step (steps n x)
def b32 (n : Int) : BitVec 32 := BitVec.ofInt 32 n
def byteIn (x : BitVec 32) (c : Int) : BitVec 32 := steps 8 (x ^^^ b32 c)
def ext (x : BitVec 32) (l : List Int) : BitVec 32 := l.foldl byteIn x
/-- What 'Extend' answers. -/
def sumOf (s : Int) (l : List Int) : Int := ((~~~ ext (~~~ b32 s) l).toNat : Int)

theorem ext_take (x : BitVec 32) (l : List Int) (k : Nat) (h : k < l.length) : ext x (l.take (k + 1)) = byteIn (ext x (l.take k)) (l.getD k 0) := by
  unfold ext
  rw [List.take_succ_eq_append_getElem h, List.foldl_append]
  simp [List.getD_eq_getElem?_getD, List.getElem?_eq_getElem h]

theorem wrap_u32 (x : BitVec 32) : IntKind.u32.wrap (x.toNat : Int) = x.toNat := by
  have := x.isLt
  simp [IntKind.wrap, IntKind.bits, IntKind.signed]
  omega

theorem bits_xor (x y : Int) : Go.bits .xor .u32 x y = ((b32 x ^^^ b32 y).toNat : Int) := wrap_u32 _
theorem bits_and (x y : Int) : Go.bits .and .u32 x y = ((b32 x &&& b32 y).toNat : Int) := wrap_u32 _
theorem bits_or (x y : Int) : Go.bits .or .u32 x y = ((b32 x ||| b32 y).toNat : Int) := wrap_u32 _
theorem b32_toNat (x : BitVec 32) : b32 (x.toNat : Int) = x := by simp [b32]
theorem b32_all : b32 4294967295 = BitVec.allOnes 32 := by decide
theorem xor_all (x : BitVec 32) : BitVec.allOnes 32 ^^^ x = ~~~ x := by
  apply BitVec.eq_of_getLsbD_eq; intro i hi
  rw [BitVec.getLsbD_xor, BitVec.getLsbD_not, BitVec.getLsbD_allOnes]; simp [hi]
theorem range (x : BitVec 32) : 0 ≤ (x.toNat : Int) ∧ (x.toNat : Int) ≤ 4294967295 := by have := x.isLt; omega
theorem and_one (x : BitVec 32) : ((x &&& 1#32).toNat : Int) = if x.getLsbD 0 then 1 else 0 := by
  rw [BitVec.toNat_and]
  have : (1#32).toNat = 1 := rfl
  rw [this, Nat.and_one_is_mod, BitVec.getLsbD, Nat.testBit_zero]
  split <;> simp_all <;> omega
theorem shr_one (x : BitVec 32) : ((x.toNat : Nat) : Int) / (2 : Int) = ((x >>> 1).toNat : Int) := by
  rw [BitVec.toNat_ushiftRight, Nat.shiftRight_eq_div_pow]; simp

/-- One step of the code's own, the lowest bit 1. -/
theorem step_one {x : Int} {X : BitVec 32} (h : x = (X.toNat : Int)) (h1 : Go.bits .and .u32 x 1 = 1) : Go.bits .xor .u32 (x / 2) 2197175160 = ((step X).toNat : Int) := by
  subst h
  rw [bits_and, b32_toNat, show b32 1 = 1#32 by decide, and_one] at h1
  rw [shr_one, bits_xor, b32_toNat, show b32 2197175160 = poly by decide]
  unfold step
  split <;> simp_all
theorem step_nought {x : Int} {X : BitVec 32} (h : x = (X.toNat : Int)) (h1 : ¬ Go.bits .and .u32 x 1 = 1) : x / 2 = ((step X).toNat : Int) := by
  subst h
  rw [bits_and, b32_toNat, show b32 1 = 1#32 by decide, and_one] at h1
  rw [shr_one]
  unfold step
  split <;> simp_all

theorem b32_max : b32 IntKind.u32.max = BitVec.allOnes 32 := by decide
theorem not_start (s : Int) : Go.bits .xor .u32 IntKind.u32.max s = ((~~~ b32 s).toNat : Int) := by
  rw [bits_xor, b32_max, xor_all]
theorem not_end {X : Int} {Y : BitVec 32} (h : X = (Y.toNat : Int)) : Go.bits .xor .u32 IntKind.u32.max X = ((~~~ Y).toNat : Int) := by
  subst h
  rw [bits_xor, b32_max, b32_toNat, xor_all]
theorem xor_in {X c : Int} {Y : BitVec 32} (h : X = (Y.toNat : Int)) : Go.bits .xor .u32 X c = ((Y ^^^ b32 c).toNat : Int) := by
  subst h
  rw [bits_xor, b32_toNat]

theorem b32_shr (c : Int) (m : Nat) (h : 0 ≤ c ∧ c ≤ 4294967295) : b32 (c / 2 ^ m) = b32 c >>> m := by
  obtain ⟨n, rfl⟩ := Int.eq_ofNat_of_zero_le h.1
  have e : ((n : Int) / 2 ^ m) = ((n / 2 ^ m : Nat) : Int) := by simp
  have hn : n / 2 ^ m ≤ n := Nat.div_le_self _ _
  have hb : ∀ k : Nat, k ≤ 4294967295 → (b32 (k : Int)).toNat = k := by
    intro k hk
    simp only [b32, BitVec.toNat_ofInt]
    omega
  apply BitVec.eq_of_toNat_eq
  rw [e, BitVec.toNat_ushiftRight, Nat.shiftRight_eq_div_pow, hb n (by omega), hb _ (by omega)]
theorem b32_byte (c : Int) (h : 0 ≤ c ∧ c ≤ 255) : b32 c >>> 8 = 0#32 := by
  rw [← b32_shr c 8 (by omega)]
  have : c / 2 ^ 8 = 0 := by omega
  rw [this]; rfl
theorem shr_succ (x : BitVec 32) (m : Nat) : x >>> (m + 1) = x >>> m >>> 1 := by rw [BitVec.shiftRight_add]
theorem shr_xor (x y : BitVec 32) (m : Nat) : (x ^^^ y) >>> m = (x >>> m) ^^^ (y >>> m) := BitVec.ushiftRight_xor_distrib _ _ _

theorem ref_bit {c Y : Int} {S : BitVec 32} {m : Nat} (h : Y = ((S ^^^ (b32 c >>> m)).toNat : Int)) (hc : 0 ≤ c ∧ c ≤ 255) :
    (Go.bits .and .u32 (c / 2 ^ m) 1 != Go.bits .and .u32 Y 1) = S.getLsbD 0 := by
  subst h
  rw [bits_and, bits_and, b32_toNat, show b32 1 = 1#32 by decide, and_one, and_one, b32_shr c m (by omega), BitVec.getLsbD_xor]
  generalize (b32 c >>> m).getLsbD 0 = p
  generalize S.getLsbD 0 = q
  cases p <;> cases q <;> rfl
theorem ref_one {c Y : Int} {S : BitVec 32} {m : Nat} (h : Y = ((S ^^^ (b32 c >>> m)).toNat : Int)) (hc : 0 ≤ c ∧ c ≤ 255)
    (h1 : (Go.bits .and .u32 (c / 2 ^ m) 1 != Go.bits .and .u32 Y 1) = true) : Go.bits .xor .u32 (Y / 2) 2197175160 = ((step S ^^^ (b32 c >>> (m + 1))).toNat : Int) := by
  rw [ref_bit h hc] at h1
  subst h
  rw [shr_one, bits_xor, b32_toNat, show b32 2197175160 = poly by decide, shr_xor, ← shr_succ]
  unfold step
  rw [if_pos h1]
  congr 1
  congr 1
  rw [BitVec.xor_assoc, BitVec.xor_assoc, BitVec.xor_comm poly]
theorem ref_nought {c Y : Int} {S : BitVec 32} {m : Nat} (h : Y = ((S ^^^ (b32 c >>> m)).toNat : Int)) (hc : 0 ≤ c ∧ c ≤ 255)
    (h1 : (Go.bits .and .u32 (c / 2 ^ m) 1 != Go.bits .and .u32 Y 1) = false) : Y / 2 = ((step S ^^^ (b32 c >>> (m + 1))).toNat : Int) := by
  rw [ref_bit h hc] at h1
  subst h
  rw [shr_one, shr_xor, ← shr_succ]
  unfold step
  rw [if_neg (by rw [h1]; decide)]
theorem not_start' (s : Int) : Go.bits .xor .u32 s 4294967295 = ((~~~ b32 s).toNat : Int) := by
  rw [bits_xor, b32_all, BitVec.xor_comm, xor_all]
theorem not_end' {X : Int} {Y : BitVec 32} (h : X = (Y.toNat : Int)) : Go.bits .xor .u32 X 4294967295 = ((~~~ Y).toNat : Int) := by
  subst h
  rw [bits_xor, b32_all, b32_toNat, BitVec.xor_comm, xor_all]
theorem ref_start {X c : Int} {Y : BitVec 32} (h : X = (Y.toNat : Int)) : X = ((steps 0 (Y ^^^ b32 c) ^^^ (b32 c >>> 0)).toNat : Int) := by
  subst h
  have : steps 0 (Y ^^^ b32 c) ^^^ (b32 c >>> 0) = Y := by
    show (Y ^^^ b32 c) ^^^ (b32 c >>> 0) = Y
    rw [BitVec.ushiftRight_zero, BitVec.xor_assoc, BitVec.xor_self, BitVec.xor_zero]
  rw [this]
theorem ref_end {X c : Int} {Y : BitVec 32} (hc : 0 ≤ c ∧ c ≤ 255) (h : X = ((steps 8 (Y ^^^ b32 c) ^^^ (b32 c >>> 8)).toNat : Int)) : X = ((byteIn Y c).toNat : Int) := by
  rw [b32_byte c hc, BitVec.xor_zero] at h
  exact h

/-- What a walk is told of the bytes: the cells, where there are any. -/
def Row (k : IntKind) (w : World) (A : Option Addr) (l : List Int) : Prop :=
  l = [] ∨ ∃ b off, A = some ⟨b, off, none⟩ ∧ ∀ i, i < l.length → w.cell? ⟨b, off + i, none⟩ = some (.int k (l.getD i 0))
def Bytes (l : List Int) : Prop := ∀ n ∈ l, 0 ≤ n ∧ n ≤ 255
theorem Bytes.getD {l : List Int} (h : Bytes l) (i : Nat) : 0 ≤ l.getD i 0 ∧ l.getD i 0 ≤ 255 := by
  by_cases hi : i < l.length
  · rw [List.getD_eq_getElem?_getD, List.getElem?_eq_getElem hi]; exact h _ (List.getElem_mem hi)
  · rw [List.getD_eq_getElem?_getD, List.getElem?_eq_none (by omega)]; simp
theorem Row.of_block {k : IntKind} {w : World} {b : Nat} {l : List Int} {T : TypeId} {fr : Nat × Nat} (h : w.heap[b]? = some (.cells (l.map (Value.int k)).toArray T fr)) : Row k w (some ⟨b, 0, none⟩) l := by
  refine .inr ⟨b, 0, rfl, fun i hi => ?_⟩
  simp [World.cell?, h, List.getD_eq_getElem?_getD, List.getElem?_eq_getElem hi]
theorem heapAl (w : World) (o : Obj) : (w.alloc o).heap = w.heap.push o := rfl
theorem heapDr (w : World) : w.drew.heap = w.heap := rfl
theorem Bytes.of_all {l : List Int} (h : l.all (fun n => decide (0 ≤ n) && decide (n ≤ 255)) = true) : Bytes l := by
  intro n hn
  have := List.all_eq_true.1 h n hn
  simpa using this
theorem sum_works1 : sumOf 0 [49, 50, 51, 52] = ((~~~ ext (~~~ b32 0) [49, 50, 51, 52]).toNat : Int) := rfl
theorem sum_nil : sumOf 0 [] = 0 := by decide +kernel
theorem sum_digits : sumOf (sumOf 0 [49, 50, 51, 52]) [53, 54, 55, 56, 57] = 3808858755 := by decide +kernel
theorem sumOf_range (s : Int) (l : List Int) : 0 ≤ sumOf s l ∧ sumOf s l ≤ 4294967295 := range _
end Go.Proofs.Ytaccdonphilpoaa.M

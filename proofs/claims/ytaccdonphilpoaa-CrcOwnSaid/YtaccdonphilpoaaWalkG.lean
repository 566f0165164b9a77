/- Walked: four makes a row of a number's four bytes, the lowest first. Conditions: the number fits 32 bits. -/
import Derived.Test.YtaccdonphilpoaaWalkE
import Derived.Test.YtaccdonphilpoaaLin
namespace Go.Proofs.Ytaccdonphilpoaa
open Go.RowKit M
set_option linter.unusedVariables false

namespace M
def fourOf (n : Int) : List Int := [n % 256, n / 256 % 256, n / 65536 % 256, n / 16777216]
theorem fourOf_bytes (n : Int) (hn : 0 ≤ n ∧ n ≤ 4294967295) : Bytes (fourOf n) := by
  intro m hm
  simp only [fourOf, List.mem_cons, List.not_mem_nil, or_false] at hm
  rcases hm with rfl | rfl | rfl | rfl <;> omega
theorem b32_nat (n : Nat) (h : n ≤ 4294967295) : (b32 (n : Int)).toNat = n := by
  simp only [b32, BitVec.toNat_ofInt]; omega
theorem bit_of_nat (n : Nat) (h : n ≤ 4294967295) (i : Nat) : (b32 (n : Int)).getLsbD i = n.testBit i := by rw [BitVec.getLsbD, b32_nat n h]
/-- The bits of the four bytes are the number's own. -/
theorem fourOf_bit (n : Int) (hn : 0 ≤ n ∧ n ≤ 4294967295) (i : Nat) (hi : i < 32) : textBit (fourOf n) i = (b32 n).getLsbD i := by
  obtain ⟨m, rfl⟩ := Int.eq_ofNat_of_zero_le hn.1
  have hm : m ≤ 4294967295 := by omega
  have key : ∀ j r, j < 4 → r < 8 → (m / 256 ^ j % 256).testBit r = m.testBit (8 * j + r) := by
    intro j r hj hr
    rw [show (256 : Nat) = 2 ^ 8 from rfl, ← Nat.pow_mul, Nat.testBit_mod_two_pow, Nat.testBit_div_two_pow]
    simp [hr, Nat.add_comm]
  have d : i = 8 * (i / 8) + i % 8 := by omega
  have hr : i % 8 < 8 := by omega
  rw [bit_of_nat m hm]
  unfold textBit bitOf
  generalize i % 8 = r at d hr
  have hj : i / 8 = 0 ∨ i / 8 = 1 ∨ i / 8 = 2 ∨ i / 8 = 3 := by omega
  rcases hj with h | h | h | h
  · rw [h] at d ⊢
    have e : ((fourOf (m : Int)).getD 0 0) = ((m / 256 ^ 0 % 256 : Nat) : Int) := by simp [fourOf]
    rw [e, bit_of_nat _ (by omega), key 0 r (by omega) hr, d]
  · rw [h] at d ⊢
    have e : ((fourOf (m : Int)).getD 1 0) = ((m / 256 ^ 1 % 256 : Nat) : Int) := by simp [fourOf]
    rw [e, bit_of_nat _ (by omega), key 1 r (by omega) hr, d]
  · rw [h] at d ⊢
    have e : ((fourOf (m : Int)).getD 2 0) = ((m / 256 ^ 2 % 256 : Nat) : Int) := by simp [fourOf]
    rw [e, bit_of_nat _ (by omega), key 2 r (by omega) hr, d]
  · rw [h] at d ⊢
    have e : ((fourOf (m : Int)).getD 3 0) = ((m / 256 ^ 3 % 256 : Nat) : Int) := by simp [fourOf]; omega
    rw [e, bit_of_nat _ (by omega), key 3 r (by omega) hr, d]
theorem run_word (x N : BitVec 32) : ∀ m, run x (fun i => N.getLsbD i) m = steps m (x ^^^ N) ^^^ (N >>> m)
  | 0 => by
    show x = (x ^^^ N) ^^^ (N >>> 0)
    rw [BitVec.ushiftRight_zero, BitVec.xor_assoc, BitVec.xor_self, BitVec.xor_zero]
  | m + 1 => by
    rw [run, run_word x N m]
    show fwd _ _ = step (steps m (x ^^^ N)) ^^^ (N >>> (m + 1))
    generalize steps m (x ^^^ N) = S
    have hb : (S ^^^ N >>> m).getLsbD 0 = (S.getLsbD 0 ^^ N.getLsbD m) := by
      rw [BitVec.getLsbD_xor, BitVec.getLsbD_ushiftRight]; rfl
    have h : ((S.getLsbD 0 ^^ N.getLsbD m) != N.getLsbD m) = S.getLsbD 0 := by cases S.getLsbD 0 <;> cases N.getLsbD m <;> rfl
    unfold fwd step
    rw [hb, h, shr_xor, ← shr_succ]
    split
    · rw [BitVec.xor_assoc, BitVec.xor_assoc, BitVec.xor_comm poly]
    · rfl
theorem ext_four (x : BitVec 32) (n : Int) (hn : 0 ≤ n ∧ n ≤ 4294967295) : ext x (fourOf n) = steps 32 (x ^^^ b32 n) := by
  rw [ext_run x _ (fourOf_bytes n hn)]
  show run x (textBit (fourOf n)) 32 = _
  rw [run_congr x _ (fun i => (b32 n).getLsbD i) 32 (fun i hi => fourOf_bit n hn i hi), run_word]
  have : b32 n >>> 32 = 0#32 := by
    apply BitVec.eq_of_getLsbD_eq
    intro i hi
    rw [BitVec.getLsbD_ushiftRight, BitVec.getLsbD_of_ge _ _ (by omega)]
    simp
  rw [this, BitVec.xor_zero]
/-- A text with its own sum behind it, turned by a number. -/
theorem own_sum (l : List Int) (t : Int) (ht : 0 ≤ t ∧ t ≤ 4294967295) : sumOf 0 (l ++ fourOf (Go.bits .xor .u32 (sumOf 0 l) t)) = sumOf 0 (fourOf t) := by
  rw [← sumOf_append]
  simp only [sumOf]
  rw [b32_toNat, not_not, ext_four _ _ ht, bits_xor, ext_four _ _ (range _), b32_toNat, b32_toNat]
  congr 3
  apply congrArg
  generalize ext (~~~ b32 0) l = X
  have h1 : X ^^^ (~~~ X ^^^ b32 t) = BitVec.allOnes 32 ^^^ b32 t := by
    rw [← BitVec.xor_assoc]
    congr 1
    apply BitVec.eq_of_getLsbD_eq
    intro i hi
    rw [BitVec.getLsbD_xor, BitVec.getLsbD_not, BitVec.getLsbD_allOnes]
    simp [hi]
  have h2 : ~~~ b32 0 = BitVec.allOnes 32 := by decide
  rw [h1, h2]
theorem own_const : sumOf 0 (fourOf 0) = 1214729159 := by decide +kernel
theorem own_plain (l : List Int) : sumOf 0 (l ++ fourOf (sumOf 0 l)) = 1214729159 := by
  have h := own_sum l 0 (by omega)
  rw [own_const, bits_xor, show b32 0 = 0#32 by decide, BitVec.xor_zero] at h
  have e : ((b32 (sumOf 0 l)).toNat : Int) = sumOf 0 l := by rw [sumOf, b32_toNat]
  rwa [e] at h
end M

theorem four_any (n : Int) (w : World) (hn : 0 ≤ n ∧ n ≤ 4294967295) :
    Calls Try.prog 17 #[.int .u32 n] w fun e w' => e = .returned (.slice (some ⟨w.heap.size, 0, none⟩) 4 4) ∧ Hid (Below w.heap.size w w' ∧ Ints .u8 5 w' w.heap.size (fourOf n)) := by
  go_enter Try.func17, Try.ntmps17
  go_wp2
  go_ret
  exact ⟨rfl, (Below.refl _ _).alloc (Nat.le_refl _) _, Ints.made (l := fourOf n) w⟩

/-- The law on append, for an operation that is guarded and wanted. -/
theorem append_own_wanted {P : Program} {w : World} {ops : Array Oper} {rest : List Oper} {o : Oper} {a : Act} {Q : Exit → Act → World → Prop} (hwd : Region.wanted o (yielded ops a.tmps) = true) (s x : Operand) (t : TypeId)
    (ho : o.op = .call { callee := .builtin .append, args := #[s, x], argTypes := #[t, t] })
    (base : Nat) (e : TypeId) (i : TypeInfo) (z : Value) (size bytes : Nat) (ht : P.underlying t = some (.slice e)) (hi : P.info? e = some i) (hz : i.zero = some z)
    (hsize : i.size = size) (hby : i.bytes = bytes) (hzs : z.cells.size = size) (hsz : 0 < size)
    (v : Value) (n : Nat) (xs : List Value) (hs : a.eval s = v) (hown : w.ownsRow base e size v n xs)
    (ad : Addr) (m c : Nat) (news : List Value) (hx : a.eval x = .slice (some ad) m c) (hl : news.length = m * size) (hnews : ∀ j u, news[j]? = some u → w.cell? (ad.add j) = some u) (h1 : ∀ u ∈ news, u.oneCell' = true)
    (h63 : n + m ≤ maxLen) (hbytes : (n + m) * bytes ≤ 140737488355328) (hbase : base ≤ w.heap.size)
    (h : ∀ v' w', w'.ownsRow base e size v' (n + m) (xs ++ news) → w.grownBy w' v.ownBlock → wpList P ops Q rest (a.put o.dst v') w') : wpList P ops Q (o :: rest) a w := by
  unfold wpList
  rw [if_pos hwd]
  exact .inl (wp_append_own w s x t ho base e i z size bytes ht hi hz hsize hby hzs hsz v n xs hs hown ad m c news hx hl hnews h1 h63 hbytes hbase fun v' w' h2 h3 _ => h v' w' h2 h3)
theorem Row.news {k : IntKind} {T : TypeId} {w : World} {b : Nat} {l : List Int} (h : Ints k T w b l) : ∀ j u, (l.map (Value.int k))[j]? = some u → w.cell? ((⟨b, 0, none⟩ : Addr).add j) = some u := by
  intro j u hu
  have hj : j < l.length := by
    have := (List.getElem?_eq_some_iff.1 hu).1
    simpa using this
  have e : (⟨b, 0, none⟩ : Addr).add j = ⟨b, j, none⟩ := by
    unfold Addr.add
    split
    · rename_i h0; subst h0; rfl
    · simp
  rw [e, h.cell hj, ← hu]
  simp [List.getD_eq_getElem?_getD, List.getElem?_eq_getElem hj]
end Go.Proofs.Ytaccdonphilpoaa

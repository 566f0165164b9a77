/- Plain facts on a delay: its four cells in memory, and what the document does with it. -/
import Derived.WalkKit
import Derived.Lib.Hide
import Derived.Deep.Draws
namespace Go.Proofs.Ytjemamdldeeebaa.M
open Go.RowKit

/-- The greater, the smaller. -/
def mx (a b : Int) : Int := if a < b then b else a
def mn (a b : Int) : Int := if b < a then b else a
theorem max_i64 (ats : Array TypeId) (ty : TypeId) (x y : Int) : Builtin.max_ ats ty #[.int .i64 x, .int .i64 y] = pure (.int .i64 (mx x y)) := by
  simp [Builtin.max_, Builtin.max2, mx]
theorem min_i64 (ats : Array TypeId) (ty : TypeId) (x y : Int) : Builtin.min_ ats ty #[.int .i64 x, .int .i64 y] = pure (.int .i64 (mn x y)) := by
  simp [Builtin.min_, Builtin.min2, mn]
theorem mx_le (a b : Int) : a ≤ mx a b ∧ b ≤ mx a b ∧ (mx a b = a ∨ mx a b = b) := by unfold mx; split <;> omega
theorem mn_le (a b : Int) : mn a b ≤ a ∧ mn a b ≤ b ∧ (mn a b = a ∨ mn a b = b) := by unfold mn; split <;> omega

/-- A delay: the ticks, the packets, the moment of the first, whether it is urgent. -/
structure R where
  t : Int
  n : Int
  f : Int
  u : Bool
def R.cells (r : R) : Array Value := #[.int .i64 r.t, .int .i64 r.n, .int .i64 r.f, .bool r.u]
/-- It is as it may be. -/
def R.Ok (r : R) : Prop := 0 ≤ r.t ∧ r.t ≤ 1048576 ∧ 0 ≤ r.n ∧ r.n ≤ 2 ∧ 0 ≤ r.f ∧ r.f ≤ 2305843009213693952
def Held (T : TypeId) (w : World) (b : Nat) (r : R) : Prop := w.heap[b]? = some (.cells r.cells T (0, 0))

section
variable {T : TypeId} {w : World} {b : Nat} {r : R}
theorem Held.lt (h : Held T w b r) : b < w.heap.size := by
  rcases Nat.lt_or_ge b w.heap.size with h' | h'
  · exact h'
  · rw [Held, Array.getElem?_eq_none h'] at h; exact absurd h (by simp)
theorem Held.cell (h : Held T w b r) (i : Nat) : w.cell? ⟨b, i, none⟩ = r.cells[i]? := by
  unfold Held at h; simp [World.cell?, h]
theorem Held.free (h : Held T w b r) (i : Nat) : w.frozen? ⟨b, i, none⟩ = false := by
  unfold Held at h; simp [World.frozen?, h]
theorem Held.set (h : Held T w b r) (i : Nat) (u : Value) (r' : R) (hr : r.cells.setIfInBounds i u = r'.cells) : Held T (w.setCell ⟨b, i, none⟩ u) b r' := by
  have hlt := h.lt
  unfold Held at *
  simp only [World.setCell, Array.getElem?_modify, if_true, h, Option.map_some, Option.isSome_none]
  rw [← hr]; rfl
theorem Held.at_ {w' : World} (h : Held T w b r) (he : w'.heap[b]? = w.heap[b]?) : Held T w' b r := by
  unfold Held at *; rw [he, h]
theorem Held.drew (h : Held T w b r) : Held T w.drew b r := h
theorem Held.drewN (h : Held T w b r) (n : Nat) : Held T (w.drewN n) b r := h
end
theorem grown_set {w : World} {b i : Nat} {u : Value} : w.grownBy (w.setCell ⟨b, i, none⟩ u) (some b) :=
  ⟨rfl, rfl, rfl, by simp [World.setCell], fun k _ hk => Below.heap_setCell _ _ _ _ (by intro e; exact hk (by rw [e]))⟩
theorem grown_trans {a b c : World} {row : Option Nat} (h : a.grownBy b row) (k : b.grownBy c row) : a.grownBy c row :=
  ⟨k.os.trans h.os, k.tape.trans h.tape, k.output.trans h.output, Nat.le_trans h.size k.size, fun i hi hr => (k.block i (Nat.lt_of_lt_of_le hi h.size) hr).trans (h.block i hi hr)⟩
theorem grown_drew {a b : World} {row : Option Nat} (h : a.grownBy b row) : a.grownBy b.drew row := ⟨h.os, h.tape, h.output, h.size, h.block⟩
theorem grown_drewN {a b : World} {row : Option Nat} (h : a.grownBy b row) (n : Nat) : a.grownBy (b.drewN n) row := ⟨h.os, h.tape, h.output, h.size, h.block⟩
/-- Another estimator is as it was. -/
theorem Held.other {T : TypeId} {w w' : World} {b c : Nat} {r : R} (h : Held T w c r) (hg : w.grownBy w' (some b)) (hne : c ≠ b) : Held T w' c r :=
  h.at_ (hg.block c h.lt (fun e => hne (Option.some.inj e)))
theorem wf_i64 {n : Int} (h : (Lit.int .i64 n).wf = true) : -9223372036854775808 ≤ n ∧ n ≤ 9223372036854775807 := by
  simp [Lit.wf, IntKind.min, IntKind.max, IntKind.bits, IntKind.signed] at h
  omega
theorem wf_u8 {n : Int} (h : (Lit.int .u8 n).wf = true) : 0 ≤ n ∧ n ≤ 255 := by
  simp [Lit.wf, IntKind.min, IntKind.max, IntKind.bits, IntKind.signed] at h
  omega

theorem Held.below {T : TypeId} {w w' : World} {c : Nat} {r : R} (h : Held T w c r) (hb : Below w.heap.size w w') : Held T w' c r := h.at_ (hb.block c h.lt)
theorem Held.new (T : TypeId) (w : World) (r : R) : Held T (w.alloc (.cells r.cells T)) w.heap.size r := by
  show (w.heap.push _)[w.heap.size]? = _
  simp
/-- The moment of a first packet. -/
def clip (now : Int) : Int := mx 0 (mn now 2305843009213693952)
theorem clip_in (now : Int) : 0 ≤ clip now ∧ clip now ≤ 2305843009213693952 := by
  unfold clip
  have h1 := mn_le now 2305843009213693952
  have h2 := mx_le 0 (mn now 2305843009213693952)
  omega
theorem clip_id {now : Int} (h : 0 ≤ now) (h' : now ≤ 2305843009213693952) : clip now = now := by
  unfold clip
  have h1 := mn_le now 2305843009213693952
  have h2 := mx_le 0 (mn now 2305843009213693952)
  omega
def R.packet (r : R) (now : Int) (u : Bool) : R := ⟨r.t, mn (r.n + 1) 2, if r.n = 0 then clip now else r.f, r.u || u⟩
def R.sent (r : R) : R := ⟨r.t, 0, r.f, false⟩
def R.due (r : R) (now : Int) : Bool := decide (r.n ≠ 0) && (r.u || (decide (1 < r.n) || decide (r.f + r.t ≤ now)))
def R.when (r : R) : Int := if r.n = 0 then 0 else if r.u || decide (1 < r.n) then r.f else r.f + r.t
def R.some (r : R) : Bool := decide (r.n ≠ 0)
def made (t : Int) : R := ⟨t, 0, 0, false⟩
theorem made_ok {t : Int} (h : 0 ≤ t) (h' : t ≤ 1048576) : (made t).Ok := ⟨h, h', Int.le_refl _, by show (0 : Int) ≤ 2; omega, Int.le_refl _, by show (0 : Int) ≤ 2305843009213693952; omega⟩
theorem R.Ok.packet {r : R} (h : r.Ok) (now : Int) (u : Bool) : (r.packet now u).Ok := by
  obtain ⟨h1, h2, h3, h4, h5, h6⟩ := h
  have h7 := mn_le (r.n + 1) 2
  have h8 := clip_in now
  refine ⟨h1, h2, ?_, ?_, ?_, ?_⟩
  · show 0 ≤ mn (r.n + 1) 2; omega
  · show mn (r.n + 1) 2 ≤ 2; omega
  · show 0 ≤ if r.n = 0 then clip now else r.f; split <;> omega
  · show (if r.n = 0 then clip now else r.f) ≤ _; split <;> omega
theorem R.Ok.sent {r : R} (h : r.Ok) : r.sent.Ok := by
  obtain ⟨h1, h2, h3, h4, h5, h6⟩ := h
  exact ⟨h1, h2, Int.le_refl _, by show (0 : Int) ≤ 2; omega, h5, h6⟩
end Go.Proofs.Ytjemamdldeeebaa.M

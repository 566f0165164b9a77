/- Plain facts on an estimator: its six cells in memory, and what the document does with it. -/
import Derived.WalkKit
import Derived.Lib.Hide
import Derived.Deep.Draws
namespace Go.Proofs.Ytakbnmongagmfaa.M
open Go.RowKit

/-- The greater, the smaller. -/
def mx (a b : Int) : Int := if a < b then b else a
def mn (a b : Int) : Int := if b < a then b else a
theorem max_i64 (ats : Array TypeId) (ty : TypeId) (x y : Int) : Builtin.max_ ats ty #[.int .i64 x, .int .i64 y] = pure (.int .i64 (mx x y)) := by
  simp [Builtin.max_, Builtin.max2, mx]
theorem min_i64 (ats : Array TypeId) (ty : TypeId) (x y : Int) : Builtin.min_ ats ty #[.int .i64 x, .int .i64 y] = pure (.int .i64 (mn x y)) := by
  simp [Builtin.min_, Builtin.min2, mn]
theorem mx_le (a b : Int) : a ≤ mx a b ∧ b ≤ mx a b ∧ (mx a b = a ∨ mx a b = b) := by unfold mx; split <;> omega
theorem mn_le (a b : Int) : mn a b ≤ a ∧ mn a b ≤ b ∧ (mn a b = a ∨ mn a b = b) := by unfold mn; split <;> omega
/-- Brought to two bounds. -/
def btw (x l m : Int) : Int := mn (mx x l) m

/-- An estimator: the value, its bounds, whether there was a sample, eight times the smoothed time, four times its variation. -/
structure R where
  x : Int
  l : Int
  m : Int
  any : Bool
  s : Int
  v : Int
def R.cells (r : R) : Array Value := #[.int .i64 r.x, .int .i64 r.l, .int .i64 r.m, .bool r.any, .int .i64 r.s, .int .i64 r.v]
/-- It is as it may be. -/
def R.Ok (r : R) : Prop := 1 ≤ r.l ∧ r.l ≤ r.x ∧ r.x ≤ r.m ∧ r.m ≤ 1048576 ∧ 0 ≤ r.s ∧ r.s ≤ 8388608 ∧ 0 ≤ r.v ∧ r.v ≤ 4194304
def Held (T : TypeId) (w : World) (b : Nat) (r : R) : Prop := w.heap[b]? = some (.cells r.cells T (0, 0))

section
variable {T : TypeId} {w : World} {b : Nat} {r : R}
theorem Held.lt (h : Held T w b r) : b < w.heap.size := by
  rcases Nat.lt_or_ge b w.heap.size with h' | h'
  · exact h'
  · rw [Held, Array.getElem?_eq_none h'] at h; exact absurd h (by simp)
theorem Held.cell (h : Held T w b r) (i : Nat) : w.cell? ⟨b, i, none⟩ = r.cells[i]? := by
  unfold Held at h; simp [World.cell?, h]
theorem Held.free (h : Held T w b r) (i : Nat) : w.frozen? ⟨b, i, none⟩ = false := by
  unfold Held at h; simp [World.frozen?, h]
theorem Held.set (h : Held T w b r) (i : Nat) (u : Value) (r' : R) (hr : r.cells.setIfInBounds i u = r'.cells) : Held T (w.setCell ⟨b, i, none⟩ u) b r' := by
  have hlt := h.lt
  unfold Held at *
  simp only [World.setCell, Array.getElem?_modify, if_true, h, Option.map_some, Option.isSome_none]
  rw [← hr]; rfl
theorem Held.at_ {w' : World} (h : Held T w b r) (he : w'.heap[b]? = w.heap[b]?) : Held T w' b r := by
  unfold Held at *; rw [he, h]
theorem Held.drew (h : Held T w b r) : Held T w.drew b r := h
theorem Held.drewN (h : Held T w b r) (n : Nat) : Held T (w.drewN n) b r := h
end
theorem grown_set {w : World} {b i : Nat} {u : Value} : w.grownBy (w.setCell ⟨b, i, none⟩ u) (some b) :=
  ⟨rfl, rfl, rfl, by simp [World.setCell], fun k _ hk => Below.heap_setCell _ _ _ _ (by intro e; exact hk (by rw [e]))⟩
theorem grown_trans {a b c : World} {row : Option Nat} (h : a.grownBy b row) (k : b.grownBy c row) : a.grownBy c row :=
  ⟨k.os.trans h.os, k.tape.trans h.tape, k.output.trans h.output, Nat.le_trans h.size k.size, fun i hi hr => (k.block i (Nat.lt_of_lt_of_le hi h.size) hr).trans (h.block i hi hr)⟩
theorem grown_drew {a b : World} {row : Option Nat} (h : a.grownBy b row) : a.grownBy b.drew row := ⟨h.os, h.tape, h.output, h.size, h.block⟩
theorem grown_drewN {a b : World} {row : Option Nat} (h : a.grownBy b row) (n : Nat) : a.grownBy (b.drewN n) row := ⟨h.os, h.tape, h.output, h.size, h.block⟩
/-- Another estimator is as it was. -/
theorem Held.other {T : TypeId} {w w' : World} {b c : Nat} {r : R} (h : Held T w c r) (hg : w.grownBy w' (some b)) (hne : c ≠ b) : Held T w' c r :=
  h.at_ (hg.block c h.lt (fun e => hne (Option.some.inj e)))
/-- What a sample makes of it. -/
def R.nextS (r : R) (t : Int) : Int := if r.any then r.s + (t - r.s / 8) else 8 * t
def R.nextV (r : R) (t : Int) : Int := if r.any then r.v + (mx (r.s / 8 - t) (-(r.s / 8 - t)) - r.v / 4) else 2 * t
def R.samp (r : R) (t : Int) : R :=
  ⟨btw (r.nextS (mn t 1048576) / 8 + mx 1 (r.nextV (mn t 1048576))) r.l r.m, r.l, r.m, true, r.nextS (mn t 1048576), r.nextV (mn t 1048576)⟩
theorem btw_in {x l m : Int} (h : l ≤ m) : l ≤ btw x l m ∧ btw x l m ≤ m := by
  unfold btw
  have h1 := mx_le x l
  have h2 := mn_le (mx x l) m
  omega
theorem clip {t : Int} (h : 0 ≤ t) : 0 ≤ mn t 1048576 ∧ mn t 1048576 ≤ 1048576 := by
  have := mn_le t 1048576
  omega
theorem R.Ok.nextS {r : R} (h : r.Ok) {t : Int} (ht : 0 ≤ t ∧ t ≤ 1048576) : 0 ≤ r.nextS t ∧ r.nextS t ≤ 8388608 := by
  obtain ⟨a1, a2, a3, a4, a5, a6, a7, a8⟩ := h
  unfold R.nextS
  split <;> omega
theorem R.Ok.off {r : R} (h : r.Ok) {t : Int} (ht : 0 ≤ t ∧ t ≤ 1048576) : 0 ≤ mx (r.s / 8 - t) (-(r.s / 8 - t)) ∧ mx (r.s / 8 - t) (-(r.s / 8 - t)) ≤ 1048576 := by
  obtain ⟨a1, a2, a3, a4, a5, a6, a7, a8⟩ := h
  have := mx_le (r.s / 8 - t) (-(r.s / 8 - t))
  omega
theorem R.Ok.nextV {r : R} (h : r.Ok) {t : Int} (ht : 0 ≤ t ∧ t ≤ 1048576) : 0 ≤ r.nextV t ∧ r.nextV t ≤ 4194304 := by
  have h0 := h.off ht
  obtain ⟨a1, a2, a3, a4, a5, a6, a7, a8⟩ := h
  unfold R.nextV
  split <;> omega
theorem R.Ok.samp {r : R} (h : r.Ok) {t : Int} (ht : 0 ≤ t) : (r.samp t).Ok := by
  have h1 := h.nextS (clip ht)
  have h2 := h.nextV (clip ht)
  have h3 := btw_in (x := r.nextS (mn t 1048576) / 8 + mx 1 (r.nextV (mn t 1048576))) (l := r.l) (m := r.m) (by obtain ⟨a1, a2, a3, a4, a5, a6, a7, a8⟩ := h; omega)
  obtain ⟨a1, a2, a3, a4, a5, a6, a7, a8⟩ := h
  exact ⟨a1, h3.1, h3.2, a4, h1.1, h1.2, h2.1, h2.2⟩
def R.back (r : R) : R := { r with x := mn (2 * r.x) r.m }
theorem R.Ok.back {r : R} (h : r.Ok) : r.back.Ok := by
  obtain ⟨a1, a2, a3, a4, a5, a6, a7, a8⟩ := h
  have := mn_le (2 * r.x) r.m
  exact ⟨a1, by show r.l ≤ mn (2 * r.x) r.m; omega, by show mn (2 * r.x) r.m ≤ r.m; omega, a4, a5, a6, a7, a8⟩
/-- Three numbers that an estimator may be made of. -/
def Fits3 (f l m : Int) : Prop := 1 ≤ l ∧ l ≤ f ∧ f ≤ m ∧ m ≤ 1048576
def made (f l m : Int) : R := ⟨f, l, m, false, 0, 0⟩
theorem Fits3.ok {f l m : Int} (h : Fits3 f l m) : (made f l m).Ok := by
  obtain ⟨a1, a2, a3, a4⟩ := h
  exact ⟨a1, a2, a3, a4, Int.le_refl _, by show (0 : Int) ≤ 8388608; omega, Int.le_refl _, by show (0 : Int) ≤ 4194304; omega⟩
theorem Fits3.btw {f l m : Int} (h : Fits3 f l m) : btw f l m = f := by
  obtain ⟨a1, a2, a3, a4⟩ := h
  unfold M.btw
  have h1 := mx_le f l
  have h2 := mn_le (mx f l) m
  omega
theorem bad_btw {f l m : Int} (h : ¬ Fits3 f l m) (h1 : 1 ≤ l) (h2 : m ≤ 1048576) (h3 : l ≤ m) : btw f l m ≠ f := by
  have h4 := btw_in (x := f) h3
  intro e
  exact h ⟨h1, by omega, by omega, h2⟩
theorem Held.new (T : TypeId) (w : World) (r : R) : Held T (w.alloc (.cells r.cells T)) w.heap.size r := by
  show (w.heap.push _)[w.heap.size]? = _
  simp
theorem wf_i64 {n : Int} (h : (Lit.int .i64 n).wf = true) : -9223372036854775808 ≤ n ∧ n ≤ 9223372036854775807 := by
  simp [Lit.wf, IntKind.min, IntKind.max, IntKind.bits, IntKind.signed] at h
  omega
theorem wf_u8 {n : Int} (h : (Lit.int .u8 n).wf = true) : 0 ≤ n ∧ n ≤ 255 := by
  simp [Lit.wf, IntKind.min, IntKind.max, IntKind.bits, IntKind.signed] at h
  omega
theorem samp_fresh {r : R} (h : r.any = false) (t : Int) : (r.samp t).s / 8 = mn t 1048576 ∧ (r.samp t).x = btw (mn t 1048576 + mx 1 (2 * mn t 1048576)) r.l r.m := by
  have e : 8 * mn t 1048576 / 8 = mn t 1048576 := by omega
  simp only [R.samp, R.nextS, R.nextV, h, Bool.false_eq_true, if_false, e, and_self]
theorem btw_mono {x y l m : Int} (h : x ≤ y) : btw x l m ≤ btw y l m := by
  unfold btw mn mx
  repeat' split
  all_goals omega
/-- Samples of nothing alone. -/
def Zero (r : R) : Prop := r.s = 0 ∧ r.v = 0
theorem Zero.samp {r : R} (h : Zero r) : Zero (r.samp 0) ∧ (r.samp 0).x = btw 1 r.l r.m := by
  obtain ⟨h1, h2⟩ := h
  have e : mn 0 1048576 = 0 := by decide
  have e3 : mx 0 0 = 0 := by decide
  have e4 : mx 1 0 = 1 := by decide
  have hs : r.nextS 0 = 0 := by unfold R.nextS; rw [h1]; split <;> rfl
  have hv : r.nextV 0 = 0 := by
    unfold R.nextV
    rw [h1, h2]
    show (if r.any = true then 0 + (mx 0 0 - 0) else 2 * 0) = (0 : Int)
    rw [e3]; split <;> rfl
  refine ⟨⟨by show r.nextS (mn 0 1048576) = 0; rw [e, hs], by show r.nextV (mn 0 1048576) = 0; rw [e, hv]⟩, ?_⟩
  show btw (r.nextS (mn 0 1048576) / 8 + mx 1 (r.nextV (mn 0 1048576))) r.l r.m = _
  rw [e, hs, hv, e4]; rfl
theorem samp_later {r : R} (h : r.Ok) {t : Int} (ht : 0 ≤ t) : btw 1 r.l r.m ≤ (r.samp t).x := by
  have h1 := h.nextS (clip ht)
  have h2 := mx_le 1 (r.nextV (mn t 1048576))
  exact btw_mono (by omega)

/-! ### Samples of one time -/
def dec (v : Int) : Int := v - v / 4
def decN : Nat → Int → Int
  | 0, v => v
  | n + 1, v => dec (decN n v)
theorem dec_mono {a b : Int} (h : a ≤ b) : dec a ≤ dec b := by unfold dec; omega
theorem decN_mono {a b : Int} (h : a ≤ b) : ∀ n, decN n a ≤ decN n b
  | 0 => h
  | n + 1 => dec_mono (decN_mono h n)
theorem decN_top : decN 99 2097152 ≤ 3 := by decide +kernel
theorem decN_nonneg {a : Int} (h : 0 ≤ a) : ∀ n, 0 ≤ decN n a
  | 0 => h
  | n + 1 => by have := decN_nonneg h n; show 0 ≤ dec _; unfold dec; omega
theorem dec_small {v : Int} (h : 0 ≤ v ∧ v ≤ 3) : dec v = v := by unfold dec; omega
/-- Behind k samples of t. -/
def Same (t l m : Int) (k : Nat) (r : R) : Prop := r.l = l ∧ r.m = m ∧ (k = 0 ∧ r.any = false ∨ 0 < k ∧ r.any = true ∧ r.s = 8 * t ∧ r.v = decN (k - 1) (2 * t) ∧ r.x = btw (t + mx 1 r.v) l m)
theorem Same.next {t l m : Int} {k : Nat} {r : R} (h : Same t l m k r) (ht : 0 ≤ t ∧ t ≤ 1048576) : Same t l m (k + 1) (r.samp t) := by
  have e : mn t 1048576 = t := by have := mn_le t 1048576; omega
  have e8 : 8 * t / 8 = t := by omega
  have e0 : mx 0 0 = 0 := by decide
  obtain ⟨rfl, rfl, ⟨rfl, h3⟩ | ⟨hk, h3, h4, h5, h6⟩⟩ := h
  · refine ⟨rfl, rfl, .inr ⟨by omega, rfl, ?_, ?_, ?_⟩⟩
    · simp only [R.samp, R.nextS, h3, e, Bool.false_eq_true, if_false]
    · simp only [R.samp, R.nextV, h3, e, Bool.false_eq_true, if_false]; rfl
    · simp only [R.samp, R.nextS, R.nextV, h3, e, Bool.false_eq_true, if_false, e8]
  · have hs : r.nextS t = 8 * t := by simp only [R.nextS, h3, if_true, h4, e8]; omega
    have hv : r.nextV t = dec r.v := by
      simp only [R.nextV, h3, if_true, h4, e8]
      have : t - t = 0 := by omega
      rw [this]
      show r.v + (mx 0 0 - r.v / 4) = _
      rw [e0]; unfold dec; omega
    refine ⟨rfl, rfl, .inr ⟨by omega, rfl, ?_, ?_, ?_⟩⟩
    · show r.nextS (mn t 1048576) = _; rw [e, hs]
    · show r.nextV (mn t 1048576) = _
      rw [e, hv, h5]
      have : k + 1 - 1 = (k - 1) + 1 := by omega
      rw [this]; rfl
    · show btw (r.nextS (mn t 1048576) / 8 + mx 1 (r.nextV (mn t 1048576))) r.l r.m = btw (t + mx 1 (r.nextV (mn t 1048576))) r.l r.m
      rw [e, hs, e8]
theorem Same.smooth {t l m : Int} {k : Nat} {r : R} (h : Same t l m (k + 1) r) : r.any = true ∧ r.s / 8 = t := by
  obtain ⟨_, _, ⟨h, _⟩ | ⟨_, h3, h4, _⟩⟩ := h
  · omega
  · exact ⟨h3, by omega⟩
/-- Behind a hundred the variation is at most 3, and stays. -/
theorem Same.still {t l m : Int} {r : R} (ht : 0 ≤ t ∧ t ≤ 1048576) : ∀ {j : Nat}, Same t l m (100 + j) r → r.v = decN 99 (2 * t) ∧ 0 ≤ r.v ∧ r.v ≤ 3 ∧ r.x = btw (t + mx 1 r.v) l m := by
  intro j h
  have h3 : 0 ≤ decN 99 (2 * t) ∧ decN 99 (2 * t) ≤ 3 := ⟨decN_nonneg (by omega) _, Int.le_trans (decN_mono (by omega) 99) decN_top⟩
  have hd : ∀ j, decN (99 + j) (2 * t) = decN 99 (2 * t) := by
    intro j
    induction j with
    | zero => rfl
    | succ j ih => show dec (decN (99 + j) (2 * t)) = _; rw [ih]; exact dec_small h3
  obtain ⟨_, _, ⟨h, _⟩ | ⟨_, _, _, h5, h6⟩⟩ := h
  · omega
  · have e : 100 + j - 1 = 99 + j := by omega
    rw [e, hd] at h5
    exact ⟨h5, by omega, by omega, h6⟩
theorem steady_bounds {t v l m : Int} (hv : 0 ≤ v ∧ v ≤ 3) : mn (mx (t + 1) l) m ≤ btw (t + mx 1 v) l m ∧ btw (t + mx 1 v) l m ≤ mn (mx (t + 3) l) m := by
  have h := mx_le 1 v
  exact ⟨btw_mono (x := t + 1) (by omega), btw_mono (y := t + 3) (by omega)⟩
end Go.Proofs.Ytakbnmongagmfaa.M

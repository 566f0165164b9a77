/- Walked: a delay's When; and works. -/
import Derived.Test.YtjemamdldeeebaaWalkB
namespace Go.Proofs.Ytjemamdldeeebaa
open Go.RowKit M
set_option linter.unusedVariables false

theorem when_nil (w : World) : Calls Try.prog 16 #[.pointer none] w fun e w' => e = .returned (.tuple #[.int .i64 0, .bool false]) ∧ Below w.heap.size w w' := by
  go_enter Try.func16, Try.ntmps16
  go_wp2
  go_ret2
  exact ⟨rfl, Below.refl _ _⟩

set_option maxHeartbeats 1000000 in
theorem when_any (b : Nat) (r : R) (w : World) (h : Held 45 w b r) (ho : r.Ok) :
    Calls Try.prog 16 #[.pointer (some ⟨b, 0, none⟩)] w fun e w' => e = .returned (.tuple #[.int .i64 r.when, .bool r.some]) ∧ Below w.heap.size w w' := by
  have CD := Lib.hid (due_any b r r.f w h ho)
  obtain ⟨t, n, f, u⟩ := r
  have h0 : w.cell? ⟨b, 0, none⟩ = some (.int .i64 t) := h.cell 0
  have h1 : w.cell? ⟨b, 1, none⟩ = some (.int .i64 n) := h.cell 1
  have h2 : w.cell? ⟨b, 2, none⟩ = some (.int .i64 f) := h.cell 2
  have hlt := h.lt
  have HK : Hid (∀ w', Below w.heap.size w w' → w'.cell? ⟨b, 0, none⟩ = some (.int .i64 t) ∧ w'.cell? ⟨b, 2, none⟩ = some (.int .i64 f)) := fun w' hb => by
    rw [hb.cell (p := ⟨b, 0, none⟩) hlt, hb.cell (p := ⟨b, 2, none⟩) hlt]; exact ⟨h0, h2⟩
  obtain ⟨a1, a2, a3, a4, a5, a6⟩ := ho
  simp only at a1 a2 a3 a4 a5 a6
  clear h
  by_cases hn : n = 0
  · subst hn
    clear CD HK
    go_enter Try.func16, Try.ntmps16
    go_wp2
    go_ret2
    exact ⟨rfl, Below.refl _ _⟩
  · have hn' : (n == 0) = false := by simpa using hn
    have HN := Lib.hid hn
    obtain ⟨d, hd⟩ : ∃ d, (R.mk t n f u).due f = d := ⟨_, rfl⟩
    rw [hd] at CD
    have HD := Lib.hid hd
    clear hn hd
    have hs : (R.mk t n f u).some = true := by simp [R.some, HN.out]
    have HS := Lib.hid hs
    clear hs
    cases d with
    | true =>
      have hw : (R.mk t n f u).when = f := by
        have h1 : n ≠ 0 := HN.out
        have h2 := HD.out
        simp only [R.due, R.when, h1, ne_eq, not_false_eq_true, decide_true, Bool.true_and] at h2 ⊢
        by_cases hu : (u || decide (1 < n)) = true
        · simp [hu]
        · have ht : f + t ≤ f := by
            rw [← Bool.or_assoc] at h2
            simp only [Bool.not_eq_true] at hu
            rw [hu] at h2
            simpa using h2
          have : t = 0 := by omega
          simp [hu, this]
      have HW := Lib.hid hw
      clear hw
      go_enter Try.func16, Try.ntmps16
      go_wp2_with fail
      (go_at_call 18; (with_reducible refine CD.out.mono ?_); rintro e w1 ⟨rfl, hb⟩)
      obtain ⟨k0, k2⟩ := HK.out w1 hb
      have HB := Lib.hid hb
      clear hb h0 h1 h2 CD HK
      go_wp2
      go_ret2
      rw [HW.out, HS.out]
      exact ⟨rfl, HB.out⟩
    | false =>
      have hw : (R.mk t n f u).when = f + t := by
        have h1 : n ≠ 0 := HN.out
        have h2 := HD.out
        simp only [R.due, R.when, h1, ne_eq, not_false_eq_true, decide_true, Bool.true_and] at h2 ⊢
        rw [← Bool.or_assoc, Bool.or_eq_false_iff] at h2
        simp [h2.1]
      have HW := Lib.hid hw
      clear hw
      go_enter Try.func16, Try.ntmps16
      go_wp2_with fail
      (go_at_call 18; (with_reducible refine CD.out.mono ?_); rintro e w1 ⟨rfl, hb⟩)
      obtain ⟨k0, k2⟩ := HK.out w1 hb
      have HB := Lib.hid hb
      clear hb h0 h1 h2 CD HK
      go_wp2_with fail
      go_quiet (fail)
      go_wp2
      go_ret2
      rw [HW.out, HS.out]
      exact ⟨rfl, HB.out.os, HB.out.tape, HB.out.output, HB.out.size, HB.out.block⟩

/-! ### What each call makes of a delay that a law holds -/
/-- Nothing below B has been turned since w0, but for the one delay at b, which is now r. -/
def Keeps (w0 w : World) (b : Nat) (r : R) : Prop := Below w0.heap.size w0 w ∧ r.Ok ∧ Held 45 w b r ∧ w0.heap.size ≤ b
theorem Keeps.made {w0 w : World} {t : Int} (ht : 0 ≤ t) (ht' : t ≤ 1048576) (h : w = w0.alloc (.cells (made t).cells 45)) : Keeps w0 w w0.heap.size (made t) := by
  subst h
  exact ⟨(Below.refl _ _).alloc (Nat.le_refl _) _, made_ok ht ht', Held.new _ _ _, Nat.le_refl _⟩
theorem Keeps.grown {w0 w w' : World} {b : Nat} {r r' : R} (h : Keeps w0 w b r) (ho : r'.Ok) (h2 : Held 45 w' b r' ∧ w.grownBy w' (some b)) : Keeps w0 w' b r' :=
  ⟨h.1.grown h2.2 h.1.size (fun k hk => by cases hk; exact h.2.2.2), ho, h2.1, h.2.2.2⟩
theorem Keeps.below {w0 w w' : World} {b : Nat} {r : R} (h : Keeps w0 w b r) (hb : Below w.heap.size w w') : Keeps w0 w' b r :=
  ⟨h.1.trans (hb.mono h.1.size), h.2.1, h.2.2.1.below hb, h.2.2.2⟩

theorem packet_keeps {w0 w : World} {b : Nat} {r : R} (h : Keeps w0 w b r) (now : Int) (v : Bool) :
    Calls Try.prog 12 #[.pointer (some ⟨b, 0, none⟩), .int .i64 now, .bool v] w fun e w' => e = .returned (.tuple #[]) ∧ Hid (Keeps w0 w' b (r.packet now v)) :=
  (packet_any b r now v w h.2.2.1 h.2.1).mono fun _ _ ⟨he, hh⟩ => ⟨he, h.grown (h.2.1.packet now v) hh.out⟩
theorem sent_keeps {w0 w : World} {b : Nat} {r : R} (h : Keeps w0 w b r) :
    Calls Try.prog 14 #[.pointer (some ⟨b, 0, none⟩)] w fun e w' => e = .returned (.tuple #[]) ∧ Hid (Keeps w0 w' b r.sent) :=
  (sent_any b r w h.2.2.1).mono fun _ _ ⟨he, hh⟩ => ⟨he, h.grown h.2.1.sent hh.out⟩
theorem due_keeps {w0 w : World} {b : Nat} {r : R} (h : Keeps w0 w b r) (now : Int) (d : Bool) (hd : r.due now = d) :
    Calls Try.prog 18 #[.pointer (some ⟨b, 0, none⟩), .int .i64 now] w fun e w' => e = .returned (.bool d) ∧ Hid (Keeps w0 w' b r) :=
  (due_any b r now w h.2.2.1 h.2.1).mono fun _ _ ⟨he, hh⟩ => ⟨by rw [he, hd], h.below hh⟩
theorem when_keeps {w0 w : World} {b : Nat} {r : R} (h : Keeps w0 w b r) (x : Int) (s : Bool) (hx : r.when = x) (hs : r.some = s) :
    Calls Try.prog 16 #[.pointer (some ⟨b, 0, none⟩)] w fun e w' => e = .returned (.tuple #[.int .i64 x, .bool s]) ∧ Hid (Keeps w0 w' b r) :=
  (when_any b r w h.2.2.1 h.2.1).mono fun _ _ ⟨he, hh⟩ => ⟨by rw [he, hx, hs], h.below hh⟩
theorem new_keeps (t : Int) (w : World) (h : 0 ≤ t) (h' : t ≤ 1048576) :
    Calls Try.prog 10 #[.int .i64 t] w fun e w' => e = .returned (.tuple #[.pointer (some ⟨w.heap.size, 0, none⟩), .int .i64 0]) ∧ Hid (Keeps w w' w.heap.size (made t)) :=
  (new_good t w h h').mono fun _ _ ⟨he, hh⟩ => ⟨he, Keeps.made h h' hh.out⟩

set_option maxHeartbeats 2000000 in
theorem works_any (w : World) : Calls Try.prog 9 #[] w fun e w' => e = .returned (.bool true) ∧ Below w.heap.size w w' := by
    go_enter Try.func9, Try.ntmps9
    go_wp2_with fail
    (go_at_call 10; (with_reducible refine (new_keeps 5 w (by decide) (by decide)).mono ?_); rintro e w1 ⟨rfl, HH⟩)
    go_wp2_with fail
    (go_at_call 18; (with_reducible refine (due_keeps HH.out 9 false (by kernel_rfl)).mono ?_); clear HH; rintro e w2 ⟨rfl, HH⟩)
    go_wp2_with fail
    (go_at_call 12; (with_reducible refine (packet_keeps HH.out 10 false).mono ?_); clear HH; rintro e w3 ⟨rfl, HH⟩)
    go_wp2_with fail
    (go_at_call 18; (with_reducible refine (due_keeps HH.out 14 false (by kernel_rfl)).mono ?_); clear HH; rintro e w4 ⟨rfl, HH⟩)
    go_wp2_with fail
    (go_at_call 18; (with_reducible refine (due_keeps HH.out 15 true (by kernel_rfl)).mono ?_); clear HH; rintro e w5 ⟨rfl, HH⟩)
    go_wp2_with fail
    (go_at_call 12; (with_reducible refine (packet_keeps HH.out 11 false).mono ?_); clear HH; rintro e w6 ⟨rfl, HH⟩)
    go_wp2_with fail
    (go_at_call 16; (with_reducible refine (when_keeps HH.out 10 true (by kernel_rfl) (by kernel_rfl)).mono ?_); clear HH; rintro e w7 ⟨rfl, HH⟩)
    go_wp2_with fail
    (go_at_call 18; (with_reducible refine (due_keeps HH.out 11 true (by kernel_rfl)).mono ?_); clear HH; rintro e w8 ⟨rfl, HH⟩)
    go_wp2_with fail
    (go_at_call 14; (with_reducible refine (sent_keeps HH.out).mono ?_); clear HH; rintro e w9 ⟨rfl, HH⟩)
    go_wp2_with fail
    (go_at_call 18; (with_reducible refine (due_keeps HH.out 99 false (by kernel_rfl)).mono ?_); clear HH; rintro e w10 ⟨rfl, HH⟩)
    go_wp2_with fail
    (go_at_call 12; (with_reducible refine (packet_keeps HH.out 20 true).mono ?_); clear HH; rintro e w11 ⟨rfl, HH⟩)
    go_wp2_with fail
    (go_at_call 18; (with_reducible refine (due_keeps HH.out 20 true (by kernel_rfl)).mono ?_); clear HH; rintro e w12 ⟨rfl, HH⟩)
    go_wp2_with fail
    go_ret
    exact ⟨rfl, HH.out.1⟩
end Go.Proofs.Ytjemamdldeeebaa

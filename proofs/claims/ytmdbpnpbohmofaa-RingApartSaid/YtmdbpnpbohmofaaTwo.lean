/- Two rings of numbers side by side: what each call makes of both. -/
import Derived.Test.YtmdbpnpbohmofaaWalkUB
import Derived.Test.YtmdbpnpbohmofaaWalkUC
namespace Go.Proofs.Ytmdbpnpbohmofaa
open Go.RowKit M Go.Conc
/-- The ring at a holds xs, the ring at b holds ys; they share no block, and nothing older than w0 was turned. -/
def Two (w0 w : World) (a b n : Nat) (xs ys : List Int) : Prop :=
  ∃ F G, Owns 72 23 w0 w F a n (xs.map (Value.int .u32)) ∧ Owns 72 23 w0 w G b n (ys.map (Value.int .u32)) ∧ ∀ k, F k → ¬ G k
section
variable {w0 w w' : World} {a b n : Nat} {xs ys zs : List Int}
theorem Two.swap (h : Two w0 w a b n xs ys) : Two w0 w b a n ys xs := let ⟨F, G, p, q, d⟩ := h; ⟨G, F, q, p, fun k hg hf => d k hf hg⟩
theorem Two.holds (h : Two w0 w a b n xs ys) : Holds 72 23 w0 w a n (xs.map (Value.int .u32)) := let ⟨F, _, p, _⟩ := h; ⟨F, p⟩
theorem Two.below (h : Two w0 w a b n xs ys) : Below w0.heap.size w0 w := h.holds.below
theorem Two.turn {F G : Nat → Prop} (hq : Owns 72 23 w0 w G b n (ys.map (Value.int .u32))) (hd : ∀ k, F k → ¬ G k) (ht : ∃ F', Turn w w' F F' ∧ Owns 72 23 w0 w' F' a n (zs.map (Value.int .u32))) : Two w0 w' a b n zs ys := by
  obtain ⟨F', t, o⟩ := ht
  refine ⟨F', G, o, ⟨o.1, hq.2.1, hq.2.2.1, hq.2.2.2.other t fun k hk hf => hd k hf hk⟩, fun k hk hg => ?_⟩
  rcases t.foot k hk with q | q
  · exact hd k q hg
  · have := hq.2.2.2.lt k hg; omega
theorem Two.push (h : Two w0 w a b n xs ys) (hm : xs.length < n) (x : Int) :
    Calls Try.prog 12 #[.pointer (some ⟨a, 0, none⟩), .int .u32 x] w fun e w' => e = .returned (.bool true) ∧ Hid (Two w0 w' a b n (xs ++ [x]) ys) := by
  obtain ⟨F, G, p, q, d⟩ := h
  exact (pushU_turn p (by rw [List.length_map]; exact hm) x).mono fun _ _ ⟨he, hh⟩ => ⟨he, Lib.hid (Two.turn (zs := xs ++ [x]) q d (by rw [List.map_append]; exact hh.out))⟩
theorem Two.pop {x : Int} (h : Two w0 w a b n (x :: xs) ys) :
    Calls Try.prog 13 #[.pointer (some ⟨a, 0, none⟩)] w fun e w' => e = .returned (.tuple #[.int .u32 x, .bool true]) ∧ Hid (Two w0 w' a b n xs ys) := by
  obtain ⟨F, G, p, q, d⟩ := h
  exact (popU_turn (x := x) (xs := xs.map (Value.int .u32)) p).mono fun _ _ ⟨he, hh⟩ => ⟨he, Lib.hid (Two.turn q d hh.out)⟩
theorem Two.push2 (h : Two w0 w a b n xs ys) (hm : ys.length < n) (x : Int) :
    Calls Try.prog 12 #[.pointer (some ⟨b, 0, none⟩), .int .u32 x] w fun e w' => e = .returned (.bool true) ∧ Hid (Two w0 w' a b n xs (ys ++ [x])) :=
  (h.swap.push hm x).mono fun _ _ ⟨he, hh⟩ => ⟨he, Lib.hid hh.out.swap⟩
theorem Two.pop2 {x : Int} (h : Two w0 w a b n xs (x :: ys)) :
    Calls Try.prog 13 #[.pointer (some ⟨b, 0, none⟩)] w fun e w' => e = .returned (.tuple #[.int .u32 x, .bool true]) ∧ Hid (Two w0 w' a b n xs ys) :=
  (h.swap.pop).mono fun _ _ ⟨he, hh⟩ => ⟨he, Lib.hid hh.out.swap⟩
theorem Two.len (h : Two w0 w a b n xs ys) (m : Int) (hm : m = xs.length) : Calls Try.prog 14 #[.pointer (some ⟨a, 0, none⟩)] w fun e w' => e = .returned (.int .i64 m) ∧ w = w' := lenU h.holds m (by rw [hm, List.length_map])
theorem Two.len2 (h : Two w0 w a b n xs ys) (m : Int) (hm : m = ys.length) : Calls Try.prog 14 #[.pointer (some ⟨b, 0, none⟩)] w fun e w' => e = .returned (.int .i64 m) ∧ w = w' := h.swap.len m hm
theorem Two.count2 (h : Two w0 w a b n xs ys) : count w b = ys.length := by have := h.swap.holds.count; rwa [List.length_map] at this
/-- A second ring is made beside the first. -/
theorem Two.new (h : Holds 72 23 w0 w a n []) (i : Int) (hi : i = n) (h1 : 1 ≤ (n : Int)) (h2 : (n : Int) ≤ 1048576) :
    Calls Try.prog 10 #[.int .i64 i] w fun e w' => e = .returned (.tuple #[.pointer (some ⟨w.heap.size + 1, 0, none⟩), .int .i64 0]) ∧ Hid (Two w0 w' a (w.heap.size + 1) n [] []) := by
  subst hi
  refine (newU_good n w h1 h2).mono fun _ _ ⟨he, hh⟩ => ⟨he, ?_⟩
  obtain ⟨F, p1, p2, p3, p4⟩ := h
  obtain ⟨G, t, r⟩ := hh.out
  have hB := t.below (fun _ h => h.elim) (Nat.le_refl _)
  have hB2 := p1.trans (hB.mono p1.size)
  refine Lib.hid ⟨F, G, ⟨hB2, p2, p3, p4.other t fun _ _ h => h⟩, ⟨hB2, fun k hk => ?_, (fun _ h => by simp at h), r⟩, fun k hf hg => ?_⟩
  · exact (t.foot k hk).elim (fun h => h.elim) fun h => Nat.le_trans p1.size h
  · have := p4.lt k hf
    exact (t.foot k hg).elim (fun h => h) fun h => by omega
end
end Go.Proofs.Ytmdbpnpbohmofaa

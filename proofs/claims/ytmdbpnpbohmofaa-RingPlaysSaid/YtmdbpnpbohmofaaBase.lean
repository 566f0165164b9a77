/- A ring in memory: its three cells, its channel, its row; and what a call turns. -/
import Derived.WalkKit
import Derived.Lib.Hide
import Derived.Deep.Draws
import Derived.Laws.AppendOwn
import Derived.Laws.OwnMore
import Derived.OwnWalk
import Derived.Conc.LoneCalls
import Derived.Conc.LoneSelectN
import Derived.Maps.AppendAt
namespace Go.Proofs.Ytmdbpnpbohmofaa.M
open Go.RowKit Go.Conc

/-- From w to w': what lies outside of F is as it was; F' holds nothing but what F held and what is new. -/
structure Turn (w w' : World) (F F' : Nat → Prop) : Prop where
  os : w'.os = w.os
  tape : w'.tape = w.tape
  output : w'.output = w.output
  size : w.heap.size ≤ w'.heap.size
  block : ∀ k, k < w.heap.size → ¬ F k → w'.heap[k]? = w.heap[k]?
  foot : ∀ k, F' k → F k ∨ w.heap.size ≤ k
theorem Turn.refl (w : World) (F : Nat → Prop) : Turn w w F F := ⟨rfl, rfl, rfl, Nat.le_refl _, fun _ _ _ => rfl, fun _ h => .inl h⟩
theorem Turn.trans {a b c : World} {F G H : Nat → Prop} (h : Turn a b F G) (k : Turn b c G H) : Turn a c F H :=
  ⟨k.os.trans h.os, k.tape.trans h.tape, k.output.trans h.output, Nat.le_trans h.size k.size,
   fun i hi hn => (k.block i (Nat.lt_of_lt_of_le hi h.size) (fun hg => (h.foot i hg).elim hn (fun h' => by omega))).trans (h.block i hi hn),
   fun i hi => (k.foot i hi).elim (h.foot i) (fun h' => .inr (Nat.le_trans h.size h'))⟩
theorem Turn.drew {a b : World} {F G : Nat → Prop} (h : Turn a b F G) : Turn a b.drew F G := ⟨h.os, h.tape, h.output, h.size, h.block, h.foot⟩
theorem Turn.drewN {a b : World} {F G : Nat → Prop} (h : Turn a b F G) (n : Nat) : Turn a (b.drewN n) F G := ⟨h.os, h.tape, h.output, h.size, h.block, h.foot⟩
theorem Turn.below {a b : World} {F G : Nat → Prop} {B : Nat} (h : Turn a b F G) (hF : ∀ k, F k → B ≤ k) (hB : B ≤ a.heap.size) : Below B a b :=
  ⟨h.os, h.tape, h.output, h.size, fun k hk => h.block k (by omega) (fun hf => by have := hF k hf; omega)⟩

/-- The ring at b owns the blocks F: its channel has n places, m of them taken; behind those that went lie its m things, whose cells are xs. -/
def Ring (T E : TypeId) (size : Nat) (w : World) (F : Nat → Prop) (b n m : Nat) (xs : List Value) : Prop :=
  ∃ (c f s r : Nat) (v : Value) (buf : Array Value) (pre : List Value),
    w.heap[b]? = some (.cells #[.chan (some c), v, .int .i64 f] T (0, 0)) ∧ w.heap[c]? = some (.chan n buf false s r false) ∧ buf.size = m ∧ m ≤ n ∧ n ≤ 1048576 ∧ f ≤ m ∧
    w.ownsRow 0 E size v (f + m) (pre ++ xs) ∧ pre.length = f * size ∧ b ≠ c ∧ F b ∧ F c ∧ (∀ g, v.ownBlock = some g → F g ∧ g ≠ b ∧ g ≠ c) ∧ ∀ k, F k → k < w.heap.size
theorem Ring.kept {T E : TypeId} {size : Nat} {w w' : World} {F : Nat → Prop} {b n m : Nat} {xs : List Value} (h : Ring T E size w F b n m xs)
    (hs : w.heap.size ≤ w'.heap.size) (hk : ∀ k, F k → w'.heap[k]? = w.heap[k]?) : Ring T E size w' F b n m xs := by
  obtain ⟨c, f, s, r, v, buf, pre, h1, h2, h3, h4, h5, h6, h7, h8, h9, h10, h11, h12, h13⟩ := h
  refine ⟨c, f, s, r, v, buf, pre, by rw [hk b h10]; exact h1, by rw [hk c h11]; exact h2, h3, h4, h5, h6, ?_, h8, h9, h10, h11, h12, fun k hf => Nat.lt_of_lt_of_le (h13 k hf) hs⟩
  obtain ⟨q1, q2 | ⟨g, cap, cur, rfl, q3, q4, q5⟩⟩ := h7
  · exact ⟨q1, .inl q2⟩
  · exact ⟨q1, .inr ⟨g, cap, cur, rfl, q3, by rw [hk g (h12 g rfl).1]; exact q4, q5⟩⟩
theorem Ring.drew {T E : TypeId} {size : Nat} {w : World} {F : Nat → Prop} {b n m : Nat} {xs : List Value} (h : Ring T E size w F b n m xs) : Ring T E size w.drew F b n m xs := h
/-- Another ring's turn leaves this one. -/
theorem Ring.other {T E : TypeId} {size : Nat} {w w' : World} {F G G' : Nat → Prop} {b n m : Nat} {xs : List Value} (h : Ring T E size w F b n m xs) (ht : Turn w w' G G') (hd : ∀ k, F k → ¬ G k) : Ring T E size w' F b n m xs := by
  have hlt : ∀ k, F k → k < w.heap.size := by obtain ⟨_, _, _, _, _, _, _, _, _, _, _, _, _, _, _, _, _, _, _, h13⟩ := h; exact h13
  exact h.kept ht.size (fun k hk => ht.block k (hlt k hk) (hd k hk))
theorem apart_after {w w' : World} {F G G' : Nat → Prop} (ht : Turn w w' G G') (hd : ∀ k, F k → ¬ G k) (hlt : ∀ k, F k → k < w.heap.size) : ∀ k, F k → ¬ G' k := by
  intro k hk hg
  rcases ht.foot k hg with h | h
  · exact hd k hk h
  · have := hlt k hk; omega
theorem Ring.lt {T E : TypeId} {size : Nat} {w : World} {F : Nat → Prop} {b n m : Nat} {xs : List Value} (h : Ring T E size w F b n m xs) : ∀ k, F k → k < w.heap.size := by
  obtain ⟨_, _, _, _, _, _, _, _, _, _, _, _, _, _, _, _, _, _, _, h13⟩ := h; exact h13
theorem setChan_heap {w : World} {c cap : Nat} {buf : Array Value} {cl : Bool} {s r : Nat} {tm : Bool} {k : Nat} (h : k ≠ c) : (w.setChan c cap buf cl s r tm).heap[k]? = w.heap[k]? := by
  simp only [World.setChan]; rw [Array.getElem?_setIfInBounds_ne (by omega)]
theorem grown_set {w : World} {b i : Nat} {u : Value} : w.grownBy (w.setCell ⟨b, i, none⟩ u) (some b) :=
  ⟨rfl, rfl, rfl, by simp [World.setCell], fun k _ hk => Below.heap_setCell _ _ _ _ (by intro e; exact hk (by rw [e]))⟩
theorem lt_of_some {w : World} {b : Nat} {o : Obj} (h : w.heap[b]? = some o) : b < w.heap.size := (Array.getElem?_eq_some_iff.1 h).1
/-- What a ring owns behind a turn: what it owned, and all that is new. -/
def More (w w' : World) (F : Nat → Prop) (k : Nat) : Prop := F k ∨ (w.heap.size ≤ k ∧ k < w'.heap.size)
/-- What a turn's last world holds of the ring's blocks makes a turn and a ring. -/
theorem ring_of {T E : TypeId} {size : Nat} {w w' : World} {F : Nat → Prop} {b n m c f s r : Nat} {v : Value} {buf : Array Value} {pre xs : List Value}
    (ho : w'.os = w.os) (ht : w'.tape = w.tape) (hp : w'.output = w.output) (hs : w.heap.size ≤ w'.heap.size) (hk : ∀ k, k < w.heap.size → ¬ F k → w'.heap[k]? = w.heap[k]?)
    (hlt : ∀ k, F k → k < w.heap.size) (hFb : F b) (hFc : F c)
    (h1 : w'.heap[b]? = some (.cells #[.chan (some c), v, .int .i64 f] T (0, 0))) (h2 : w'.heap[c]? = some (.chan n buf false s r false)) (h3 : buf.size = m) (h4 : m ≤ n) (h5 : n ≤ 1048576) (h6 : f ≤ m)
    (h7 : w'.ownsRow 0 E size v (f + m) (pre ++ xs)) (h8 : pre.length = f * size) (h9 : b ≠ c) (hg : ∀ g, v.ownBlock = some g → (F g ∨ w.heap.size ≤ g) ∧ g ≠ b ∧ g ≠ c) :
    ∃ F', Turn w w' F F' ∧ Ring T E size w' F' b n m xs := by
  refine ⟨More w w' F, ⟨ho, ht, hp, hs, hk, fun k hk => hk.elim .inl (fun h => .inr h.1)⟩, c, f, s, r, v, buf, pre, h1, h2, h3, h4, h5, h6, h7, h8, h9, .inl hFb, .inl hFc, fun g hgg => ?_, fun k hk => ?_⟩
  · obtain ⟨q1, q2, q3⟩ := hg g hgg
    refine ⟨q1.elim .inl (fun h => .inr ⟨h, (h7.lt g hgg).2⟩), q2, q3⟩
  · exact hk.elim (fun h => Nat.lt_of_lt_of_le (hlt k h) hs) (fun h => h.2)

/-- A push, as it stands in memory: the channel's turn, the new thing's own block, the append, the store of the slice. -/
theorem pushed {T E : TypeId} {size : Nat} {w w2 w3 w' : World} {F : Nat → Prop} {b n m c f s r : Nat} {v v' z : Value} {buf : Array Value} {pre xs news : List Value}
    (h1 : w.heap[b]? = some (.cells #[.chan (some c), v, .int .i64 f] T (0, 0))) (h2 : w.heap[c]? = some (.chan n buf false s r false)) (h3 : buf.size = m) (h4 : m < n) (h5 : n ≤ 1048576) (h6 : f ≤ m)
    (h8 : pre.length = f * size) (h9 : b ≠ c) (h10 : F b) (h11 : F c) (h12 : ∀ g, v.ownBlock = some g → F g ∧ g ≠ b ∧ g ≠ c) (h13 : ∀ k, F k → k < w.heap.size)
    (e2 : ∃ o, w2 = (w.setChan c n (buf.push z) false (s + 1) r false).alloc o)
    (hown : w3.ownsRow 0 E size v' (f + m + 1) (pre ++ (xs ++ news))) (hgrow : w2.grownBy w3 v.ownBlock) (hat : v'.ownBlock = v.ownBlock ∨ v'.ownBlock = some w2.heap.size)
    (e' : w' = w3.setCell ⟨b, 1, none⟩ v') :
    ∃ F', Turn w w' F F' ∧ Ring T E size w' F' b n (m + 1) (xs ++ news) := by
  obtain ⟨o, rfl⟩ := e2
  subst e'
  have hs2 : ((w.setChan c n (buf.push z) false (s + 1) r false).alloc o).heap.size = w.heap.size + 1 := by simp [size_setChan]
  have hlb := h13 b h10
  have hlc := h13 c h11
  have old : ∀ k, k < w.heap.size → k ≠ c → some k ≠ v.ownBlock → w3.heap[k]? = w.heap[k]? := by
    intro k hk hc hv
    rw [hgrow.block k (by omega) hv, heap_alloc_old _ _ (by rw [size_setChan]; exact hk), setChan_heap hc]
  have hbv : some b ≠ v.ownBlock := fun e => (h12 b e.symm).2.1 rfl
  have hcv : some c ≠ v.ownBlock := fun e => (h12 c e.symm).2.2 rfl
  have hb3 : w3.heap[b]? = some (.cells #[.chan (some c), v, .int .i64 f] T (0, 0)) := by rw [old b hlb h9 hbv]; exact h1
  have hc3 : w3.heap[c]? = some (.chan n (buf.push z) false (s + 1) r false) := by
    rw [hgrow.block c (by omega) hcv, heap_alloc_old _ _ (by rw [size_setChan]; exact hlc), heap_setChan _ _ _ _ _ _ _ _ hlc]
  have hgs := hgrow.size
  have hv' : ∀ g, v'.ownBlock = some g → (F g ∨ w.heap.size ≤ g) ∧ g ≠ b ∧ g ≠ c := by
    intro g hg
    rcases hat with h | h
    · rw [h] at hg
      obtain ⟨q1, q2, q3⟩ := h12 g hg
      exact ⟨.inl q1, q2, q3⟩
    · rw [h, hs2] at hg
      cases hg
      exact ⟨.inr (by omega), by omega, by omega⟩
  refine ring_of (c := c) (f := f) (s := s + 1) (r := r) (v := v') (buf := buf.push z) (pre := pre) ?_ ?_ ?_ ?_ ?_ h13 h10 h11 ?_ ?_ (by simp [h3]) (by omega) h5 (by omega) ?_ h8 h9 hv'
  · exact hgrow.os
  · exact hgrow.tape
  · exact hgrow.output
  · have : (w3.setCell ⟨b, 1, none⟩ v').heap.size = w3.heap.size := by simp [World.setCell]
    rw [this]; omega
  · intro k hk hF
    rw [grown_set.block k (by omega) (fun e => hF (by cases e; exact h10)), old k hk (fun e => hF (e ▸ h11)) (fun e => hF (h12 k e.symm).1)]
  · rw [heap_setCell_same w3 b 1 _ _ v' hb3]; simp
  · rw [grown_set.block c (by omega) (fun e => h9 (by cases e; rfl))]; exact hc3
  · rw [← Nat.add_assoc]
    exact hown.kept grown_set (.inr fun e => (hv' b e).2.1 rfl)
theorem owns_of {w w' : World} {E : TypeId} {size n : Nat} {v : Value} {xs : List Value} (h : w.ownsRow 0 E size v n xs) (hk : ∀ g, v.ownBlock = some g → w'.heap[g]? = w.heap[g]?) : w'.ownsRow 0 E size v n xs := by
  obtain ⟨q1, q2 | ⟨g, cap, cur, rfl, q3, q4, q5⟩⟩ := h
  · exact ⟨q1, .inl q2⟩
  · exact ⟨q1, .inr ⟨g, cap, cur, rfl, q3, by rw [hk g rfl]; exact q4, q5⟩⟩
theorem cell_at {w : World} {b : Nat} {cs : Array Value} {T : TypeId} (h : w.heap[b]? = some (.cells cs T (0, 0))) (i : Nat) : w.cell? ⟨b, i, none⟩ = cs[i]? := by simp [World.cell?, h]
theorem free_at {w : World} {b : Nat} {cs : Array Value} {T : TypeId} (h : w.heap[b]? = some (.cells cs T (0, 0))) (i : Nat) : w.frozen? ⟨b, i, none⟩ = false := by simp [World.frozen?, h]
theorem owns_form {w : World} {E : TypeId} {size n : Nat} {v : Value} {xs : List Value} (h : w.ownsRow 0 E size v n xs) : ∃ A cap, v = .slice A n cap := by
  obtain ⟨_, ⟨rfl, rfl⟩ | ⟨g, cap, cur, rfl, _⟩⟩ := h
  · exact ⟨_, _, rfl⟩
  · exact ⟨_, _, rfl⟩
section
variable {P : Program} {w : World} {c n m s r : Nat} {buf : Array Value} {dir : ChanDir} {e : TypeId}
theorem len_at (t ty : TypeId) (ht : P.underlying t = some (.chan dir e)) (h2 : w.heap[c]? = some (.chan n buf false s r false)) (h3 : buf.size = m) (k : Nat) :
    (Builtin.len_ #[t] ty #[.chan (some c)]).run P (w.drewN k) = .ok (goInt m) (w.drewN k) := by
  have h := run_len_chan (P := P) (w := w.drewN k) (dir := dir) (e := e) t ty ht h2
  rw [h3] at h
  exact h
theorem cap_at (t ty : TypeId) (ht : P.underlying t = some (.chan dir e)) (h2 : w.heap[c]? = some (.chan n buf false s r false)) (k : Nat) :
    (Builtin.cap_ #[t] ty #[.chan (some c)]).run P (w.drewN k) = .ok (goInt n) (w.drewN k) :=
  run_cap_chan (P := P) (w := w.drewN k) (dir := dir) (e := e) t ty ht h2
end
/-- A ring that was just made. -/
theorem made {T E : TypeId} (size n : Nat) (w : World) (h : n ≤ 1048576) :
    ∃ F', Turn w ((w.alloc (.chan n #[] false 0 0 false)).alloc (.cells #[.chan (some w.heap.size), .slice none 0 0, .int .i64 0] T)) (fun _ => False) F' ∧
      Ring T E size ((w.alloc (.chan n #[] false 0 0 false)).alloc (.cells #[.chan (some w.heap.size), .slice none 0 0, .int .i64 0] T)) F' (w.heap.size + 1) n 0 [] := by
  have hB := ((Below.refl w.heap.size w).alloc (Nat.le_refl _) (.chan n #[] false 0 0 false)).alloc (by simp) (.cells #[.chan (some w.heap.size), .slice none 0 0, .int .i64 0] T)
  have hs : ((w.alloc (.chan n #[] false 0 0 false)).alloc (.cells #[.chan (some w.heap.size), .slice none 0 0, .int .i64 0] T)).heap.size = w.heap.size + 2 := by simp
  refine ⟨fun k => w.heap.size ≤ k ∧ k < w.heap.size + 2, ⟨hB.os, hB.tape, hB.output, hB.size, fun k hk _ => hB.block k hk, fun k hk => .inr hk.1⟩, ?_⟩
  refine ⟨w.heap.size, 0, 0, 0, .slice none 0 0, #[], [], ?_, ?_, rfl, Nat.zero_le _, h, Nat.le_refl _, World.ownsRow_nil _ _ _ _, by simp, by omega, ⟨by omega, by omega⟩, ⟨by omega, by omega⟩, fun g hg => by simp [Value.ownBlock] at hg, fun k hk => by rw [hs]; exact hk.2⟩
  · have := heap_alloc_new (w.alloc (.chan n #[] false 0 0 false)) (.cells #[.chan (some w.heap.size), .slice none 0 0, .int .i64 0] T)
    simpa using this
  · rw [heap_alloc_old _ _ (by simp)]
    exact heap_alloc_new _ _
/-- The first thing is taken: the token is gone, its place holds z, the first is f. What else the ring does not own is as it was. -/
def Mid (T E : TypeId) (w W : World) (F : Nat → Prop) (b c n m s r : Nat) (v : Value) (f : Nat) (L : Nat) (zs : List Value) : Prop :=
  W.os = w.os ∧ W.tape = w.tape ∧ W.output = w.output ∧ W.heap.size = w.heap.size ∧ (∀ k, k < w.heap.size → ¬ F k → W.heap[k]? = w.heap[k]?) ∧
  W.heap[b]? = some (.cells #[.chan (some c), v, .int .i64 f] T (0, 0)) ∧ (∃ buf : Array Value, buf.size = m ∧ W.heap[c]? = some (.chan n buf false s r false)) ∧ W.ownsRow 0 E 1 v L zs
theorem mid_of {T E : TypeId} {w W : World} {F : Nat → Prop} {b c n m s r g L cap f : Nat} {x z : Value} {buf : Array Value} {pre xs : List Value}
    (h1 : w.heap[b]? = some (.cells #[.chan (some c), .slice (some ⟨g, 0, none⟩) L cap, .int .i64 f] T (0, 0))) (h3 : buf.size = m + 1)
    (h7 : w.ownsRow 0 E 1 (.slice (some ⟨g, 0, none⟩) L cap) L (pre ++ x :: xs)) (h8 : pre.length = f) (h9 : b ≠ c) (h10 : F b) (h11 : F c) (h12 : ∀ k, (Value.slice (some ⟨g, 0, none⟩) L cap).ownBlock = some k → F k ∧ k ≠ b ∧ k ≠ c) (h13 : ∀ k, F k → k < w.heap.size)
    (hW : w.setChan c n (buf.extract 1) false s (r + 1) false = W) :
    Mid T E w ((W.setCell ⟨g, f, none⟩ z).setCell ⟨b, 2, none⟩ (.int .i64 ((f : Int) + 1))) F b c n m s (r + 1) (.slice (some ⟨g, 0, none⟩) L cap) (f + 1) L (pre ++ z :: xs) := by
  subst hW
  obtain ⟨q1, q2, q3⟩ := h12 g rfl
  have hWb : (w.setChan c n (buf.extract 1) false s (r + 1) false).heap[b]? = some (.cells #[.chan (some c), .slice (some ⟨g, 0, none⟩) L cap, .int .i64 f] T (0, 0)) := by rw [setChan_heap h9]; exact h1
  have hWc : (w.setChan c n (buf.extract 1) false s (r + 1) false).heap[c]? = some (.chan n (buf.extract 1) false s (r + 1) false) := heap_setChan _ _ _ _ _ _ _ _ (h13 c h11)
  have hO : (w.setChan c n (buf.extract 1) false s (r + 1) false).ownsRow 0 E 1 (.slice (some ⟨g, 0, none⟩) L cap) L (pre ++ x :: xs) := owns_of h7 fun k hk => setChan_heap (h12 k hk).2.2
  have hS := hO.stored f z
  have hset : (pre ++ x :: xs).set f z = pre ++ z :: xs := by
    rw [List.set_append_right _ _ (by omega), h8]; simp
  rw [hset] at hS
  refine ⟨rfl, rfl, rfl, by simp [World.setCell, size_setChan], fun k hk hF => ?_, ?_, ⟨buf.extract 1, by simp [h3], ?_⟩, ?_⟩
  · rw [heap_setCell_other _ _ _ _ (fun e => hF (by rw [e]; exact h10)), heap_setCell_other _ _ _ _ (fun e => hF (by rw [e]; exact q1)), setChan_heap (fun e => hF (by rw [e]; exact h11))]
  · rw [heap_setCell_same _ b 2 #[.chan (some c), .slice (some ⟨g, 0, none⟩) L cap, .int .i64 f] T _ (by rw [heap_setCell_other _ _ _ _ (fun e => q2 e.symm)]; exact hWb)]
    simp
  · rw [heap_setCell_other _ _ _ _ (fun e => h9 e.symm), heap_setCell_other _ _ _ _ (fun e => q3 e.symm)]
    exact hWc
  · exact hS.1.kept grown_set (.inr fun e => q2 (by simpa [Value.ownBlock] using e))
theorem Mid.drew {T E : TypeId} {w W : World} {F : Nat → Prop} {b c n m s r : Nat} {v : Value} {f L : Nat} {zs : List Value} (h : Mid T E w W F b c n m s r v f L zs) : Mid T E w W.drew F b c n m s r v f L zs := h
theorem Mid.drewN {T E : TypeId} {w W : World} {F : Nat → Prop} {b c n m s r : Nat} {v : Value} {f L : Nat} {zs : List Value} (h : Mid T E w W F b c n m s r v f L zs) (k : Nat) : Mid T E w (W.drewN k) F b c n m s r v f L zs := h
/-- The ring is left as it lies. -/
theorem Mid.left {T E : TypeId} {w W : World} {F : Nat → Prop} {b c n m s r : Nat} {v z : Value} {f L : Nat} {pre xs : List Value} (h : Mid T E w W F b c n m s r v (f + 1) L (pre ++ z :: xs))
    (h4 : m ≤ n) (h5 : n ≤ 1048576) (h6 : f + 1 ≤ m) (hL : f + (m + 1) = L) (h8 : pre.length = f) (h9 : b ≠ c) (h10 : F b) (h11 : F c) (h12 : ∀ k, v.ownBlock = some k → F k ∧ k ≠ b ∧ k ≠ c) (h13 : ∀ k, F k → k < w.heap.size) :
    ∃ F', Turn w W F F' ∧ Ring T E 1 W F' b n m xs := by
  obtain ⟨q1, q2, q3, q4, q5, q6, ⟨buf, q7, q8⟩, q9⟩ := h
  refine ring_of (c := c) (f := f + 1) (s := s) (r := r) (v := v) (buf := buf) (pre := pre ++ [z]) q1 q2 q3 (by omega) q5 h13 h10 h11 q6 q8 q7 h4 h5 h6 ?_ (by simp [h8]) h9 fun k hk => ⟨.inl (h12 k hk).1, (h12 k hk).2⟩
  rw [List.append_assoc]
  have e : f + 1 + m = L := by omega
  rw [e]
  exact q9
/-- The ring is packed: its things are in a row of their own. -/
theorem Mid.packed {T E : TypeId} {w W w6 : World} {F : Nat → Prop} {b c n m s r : Nat} {v v' : Value} {f L : Nat} {zs xs : List Value} (h : Mid T E w W F b c n m s r v f L zs)
    (h4 : m ≤ n) (h5 : n ≤ 1048576) (h9 : b ≠ c) (h10 : F b) (h11 : F c) (h13 : ∀ k, F k → k < w.heap.size)
    (hown : w6.ownsRow 0 E 1 v' m xs) (hgrow : W.grownBy w6 none) (hat : v'.ownBlock = none ∨ v'.ownBlock = some W.heap.size) :
    ∃ F', Turn w ((w6.setCell ⟨b, 1, none⟩ v').setCell ⟨b, 2, none⟩ (.int .i64 0)) F F' ∧ Ring T E 1 ((w6.setCell ⟨b, 1, none⟩ v').setCell ⟨b, 2, none⟩ (.int .i64 0)) F' b n m xs := by
  obtain ⟨q1, q2, q3, q4, q5, q6, ⟨buf, q7, q8⟩, q9⟩ := h
  have hlb := h13 b h10
  have hlc := h13 c h11
  have old : ∀ k, k < w.heap.size → w6.heap[k]? = W.heap[k]? := fun k hk => hgrow.block k (by omega) (by simp)
  have hb6 : w6.heap[b]? = some (.cells #[.chan (some c), v, .int .i64 f] T (0, 0)) := by rw [old b hlb]; exact q6
  have hb7 : (w6.setCell ⟨b, 1, none⟩ v').heap[b]? = some (.cells #[.chan (some c), v', .int .i64 f] T (0, 0)) := by rw [heap_setCell_same _ b 1 _ T _ hb6]; simp
  have hv : ∀ k, v'.ownBlock = some k → W.heap.size = k := fun k hk => by
    rcases hat with e | e
    · rw [e] at hk; cases hk
    · rw [e] at hk; exact Option.some.inj hk
  have hgs := hgrow.size
  refine ring_of (c := c) (f := 0) (s := s) (r := r) (v := v') (buf := buf) (pre := []) ?_ ?_ ?_ ?_ ?_ h13 h10 h11 ?_ ?_ q7 h4 h5 (Nat.zero_le _) ?_ (by simp) h9 fun k hk => ?_
  · exact hgrow.os.trans q1
  · exact hgrow.tape.trans q2
  · exact hgrow.output.trans q3
  · have : ((w6.setCell ⟨b, 1, none⟩ v').setCell ⟨b, 2, none⟩ (.int .i64 0)).heap.size = w6.heap.size := by simp [World.setCell]
    rw [this]; omega
  · intro k hk hF
    rw [heap_setCell_other _ _ _ _ (fun e => hF (by rw [e]; exact h10)), heap_setCell_other _ _ _ _ (fun e => hF (by rw [e]; exact h10)), old k hk, q5 k hk hF]
  · rw [heap_setCell_same _ b 2 _ T _ hb7]; simp
  · rw [heap_setCell_other _ _ _ _ (fun e => h9 e.symm), heap_setCell_other _ _ _ _ (fun e => h9 e.symm), old c hlc]
    exact q8
  · rw [Nat.zero_add, List.nil_append]
    have hne : v'.ownBlock ≠ some b := fun e => by have := hv b e; omega
    exact (hown.kept grown_set (.inr hne)).kept grown_set (.inr hne)
  · have := hv k hk
    exact ⟨.inr (by omega), by omega, by omega⟩
/-- An operation whose run is known, at a step of a region that draws its order. -/
theorem step_run {P : Program} {ops : Array Oper} {o : Oper} {a : Act} {w : World} {K : Act → World → Prop} {Q : Exit → Act → World → Prop} {E : Prop} (hgd : o.guard = none) (v : Value) (w' : World)
    (hr : (execOp a.eval o).run P w = .ok (.value v) w') (h : K (a.put o.dst v) w') : if Region.wanted o (yielded ops a.tmps) = true then Oper.wp P o a w K Q else E := by
  have hw : Region.wanted o (yielded ops a.tmps) = true := by simp [Region.wanted, hgd]
  rw [if_pos hw]
  unfold Oper.wp
  rw [hr]
  exact h
theorem exec_append {P : Program} {o : Oper} {a : Act} {w w' : World} {s x : Operand} {t : TypeId} {v1 v2 v' : Value} (ho : o.op = .call { callee := .builtin .append, args := #[s, x], argTypes := #[t, t] }) (hs : a.eval s = v1) (hx : a.eval x = v2)
    (hr : (Builtin.append_ #[t, t] o.type #[v1, v2]).run P w = .ok v' w') : (execOp a.eval o).run P w = .ok (.value v') w' := by
  unfold execOp
  simp only [ho, resolve, invoke, builtin, Sem.run_bind, Sem.run_pure, Result.andThen_ok, List.map_toArray, List.map_cons, List.map_nil, hs, hx, hr]
/-- The things behind the place k, appended to nothing. -/
theorem pack_run {P : Program} {W : World} (t ty : TypeId) {E : TypeId} {i : TypeInfo} {z : Value} {bytes g L cap k m : Nat} {pre xs : List Value} (ht : P.underlying t = some (.slice E)) (hi : P.info? E = some i) (hz : i.zero = some z) (h1 : i.size = 1) (hby : i.bytes = bytes) (hzs : z.cells.size = 1)
    (h : W.ownsRow 0 E 1 (.slice (some ⟨g, 0, none⟩) L cap) L (pre ++ xs)) (hk : pre.length = k) (hm : L - k = m) (hx : ∀ u ∈ xs, u.oneCell' = true) (hb : m ≤ 2097152) (hbb : bytes ≤ 64) (ad : Addr) (cp : Nat) (hz0 : cap = k → m = 0) (had : cap ≠ k → ad = ⟨g, k, none⟩) :
    ∃ v' w6, (Builtin.append_ #[t, t] ty #[.slice none 0 0, .slice (some ad) (L - k) cp]).run P W = .ok v' w6 ∧ w6.ownsRow 0 E 1 v' m xs ∧ W.grownBy w6 none ∧ (v'.ownBlock = none ∨ v'.ownBlock = some W.heap.size) := by
  have hxl : xs.length = m := by
    have := h.1
    rw [List.length_append, Nat.mul_one] at this
    omega
  rw [hm]
  have hmb : m * bytes ≤ 2097152 * 64 := Nat.mul_le_mul hb hbb
  obtain ⟨v', w', hr, q2, q3, _, q5⟩ := run_append_own_at (P := P) W 0 t ty E i z 1 bytes ht hi hz h1 hby hzs (by decide) (.slice none 0 0) 0 [] (World.ownsRow_nil _ _ _ _) ad m cp xs (by omega)
    (fun j u hj => by
      have hj' : j < xs.length := (List.getElem?_eq_some_iff.1 hj).1
      by_cases e : cap = k
      · have := hz0 e; omega
      · rw [had e]
        have : (⟨g, k, none⟩ : Addr).add j = ⟨g, k + j, none⟩ := by
          unfold Addr.add
          split
          · rename_i h0; subst h0; rfl
          · rfl
        rw [this, h.cellAt (k + j) (by omega), List.getElem?_append_right (by omega), hk, Nat.add_sub_cancel_left]
        exact hj) hx (by simp only [maxLen]; omega) (by rw [Nat.zero_add]; omega) (Nat.zero_le _)
  rw [Nat.zero_add, List.nil_append] at q2
  exact ⟨v', w', hr, q2, q3, q5⟩
/-! ### What a law holds: a ring that was made since w0, its things xs; nothing older was turned. -/
def Owns (T E : TypeId) (w0 w : World) (F : Nat → Prop) (b n : Nat) (xs : List Value) : Prop :=
  Below w0.heap.size w0 w ∧ (∀ k, F k → w0.heap.size ≤ k) ∧ (∀ u ∈ xs, u.oneCell' = true) ∧ Ring T E 1 w F b n xs.length xs
def Holds (T E : TypeId) (w0 w : World) (b n : Nat) (xs : List Value) : Prop := ∃ F, Owns T E w0 w F b n xs
section
variable {T E : TypeId} {w0 w w' : World} {F : Nat → Prop} {b n : Nat} {xs ys : List Value}
theorem Owns.turn (h : Owns T E w0 w F b n xs) (hy : ∀ u ∈ ys, u.oneCell' = true) {m : Nat} (hm : m = ys.length) (ht : ∃ F', Turn w w' F F' ∧ Ring T E 1 w' F' b n m ys) : ∃ F', Turn w w' F F' ∧ Owns T E w0 w' F' b n ys := by
  subst hm
  obtain ⟨F', t, r⟩ := ht
  refine ⟨F', t, h.1.trans ((t.below h.2.1 h.1.size).mono (Nat.le_refl _) |> fun q => ⟨q.os, q.tape, q.output, q.size, fun k hk => q.block k hk⟩), fun k hk => ?_, hy, r⟩
  rcases t.foot k hk with q | q
  · exact h.2.1 k q
  · exact Nat.le_trans h.1.size q
theorem Owns.drewN (h : Owns T E w0 w F b n xs) (k : Nat) : Owns T E w0 (w.drewN k) F b n xs := ⟨⟨h.1.os, h.1.tape, h.1.output, h.1.size, h.1.block⟩, h.2.1, h.2.2.1, h.2.2.2⟩
theorem Owns.drew (h : Owns T E w0 w F b n xs) : Owns T E w0 w.drew F b n xs := h.drewN 1
theorem Holds.drewN (h : Holds T E w0 w b n xs) (k : Nat) : Holds T E w0 (w.drewN k) b n xs := let ⟨F, q⟩ := h; ⟨F, q.drewN k⟩
theorem Holds.drew (h : Holds T E w0 w b n xs) : Holds T E w0 w.drew b n xs := h.drewN 1
theorem Holds.below (h : Holds T E w0 w b n xs) : Below w0.heap.size w0 w := let ⟨_, q⟩ := h; q.1
theorem Holds.bound (h : Holds T E w0 w b n xs) : xs.length ≤ n ∧ n ≤ 1048576 := by
  obtain ⟨F, _, _, _, c, f, s, r, v, buf, pre, h1, h2, h3, h4, h5, h6, h7, h8, h9, h10, h11, h12, h13⟩ := h
  exact ⟨h4, h5⟩
/-- Another call has turned nothing of what is older than it. -/
theorem Holds.kept (h : Holds T E w0 w b n xs) (hb : Below w.heap.size w w') : Holds T E w0 w' b n xs := by
  obtain ⟨F, q1, q2, q3, q4⟩ := h
  exact ⟨F, q1.trans (hb.mono q1.size), q2, q3, q4.kept hb.size fun k hk => hb.block k (q4.lt k hk)⟩
end
/-- How many tokens the ring at b holds. -/
def count (w : World) (b : Nat) : Nat := match w.cell? ⟨b, 0, none⟩ with
  | some (.chan (some c)) => (match w.heap[c]? with | some (.chan _ buf _ _ _ _) => buf.size | _ => 0)
  | _ => 0
theorem Ring.count {T E : TypeId} {size : Nat} {w : World} {F : Nat → Prop} {b n m : Nat} {xs : List Value} (h : Ring T E size w F b n m xs) : count w b = m := by
  obtain ⟨c, f, s, r, v, buf, pre, h1, h2, h3, h4, h5, h6, h7, h8, h9, h10, h11, h12, h13⟩ := h
  have hc0 : w.cell? ⟨b, 0, none⟩ = some (.chan (some c)) := cell_at h1 0
  simp [M.count, hc0, h2, h3]
theorem Holds.count {T E : TypeId} {w0 w : World} {b n : Nat} {xs : List Value} (h : Holds T E w0 w b n xs) : count w b = xs.length := let ⟨_, _, _, _, q⟩ := h; q.count
theorem wf_i64 {n : Int} (h : (Lit.int .i64 n).wf = true) : -9223372036854775808 ≤ n ∧ n ≤ 9223372036854775807 := by
  simp [Lit.wf, IntKind.min, IntKind.max, IntKind.bits, IntKind.signed] at h
  omega
theorem wf_u8 {n : Int} (h : (Lit.int .u8 n).wf = true) : 0 ≤ n ∧ n ≤ 255 := by
  simp [Lit.wf, IntKind.min, IntKind.max, IntKind.bits, IntKind.signed] at h
  omega
theorem wf_u16 {n : Int} (h : (Lit.int .u16 n).wf = true) : 0 ≤ n ∧ n ≤ 65535 := by
  simp [Lit.wf, IntKind.min, IntKind.max, IntKind.bits, IntKind.signed] at h
  omega
theorem wf_u32 {n : Int} (h : (Lit.int .u32 n).wf = true) : 0 ≤ n ∧ n ≤ 4294967295 := by
  simp [Lit.wf, IntKind.min, IntKind.max, IntKind.bits, IntKind.signed] at h
  omega
/-- The greater, the smaller. -/
def mx (a b : Int) : Int := if a < b then b else a
def mn (a b : Int) : Int := if b < a then b else a
theorem max_i64 (ats : Array TypeId) (ty : TypeId) (x y : Int) : Builtin.max_ ats ty #[.int .i64 x, .int .i64 y] = pure (.int .i64 (mx x y)) := by
  simp [Builtin.max_, Builtin.max2, mx]
theorem min_i64 (ats : Array TypeId) (ty : TypeId) (x y : Int) : Builtin.min_ ats ty #[.int .i64 x, .int .i64 y] = pure (.int .i64 (mn x y)) := by
  simp [Builtin.min_, Builtin.min2, mn]
theorem mx_le (a b : Int) : a ≤ mx a b ∧ b ≤ mx a b ∧ (mx a b = a ∨ mx a b = b) := by unfold mx; split <;> omega
theorem mn_le (a b : Int) : mn a b ≤ a ∧ mn a b ≤ b ∧ (mn a b = a ∨ mn a b = b) := by unfold mn; split <;> omega
end Go.Proofs.Ytmdbpnpbohmofaa.M

/- Walks past a send, a receive and a select in one goroutine: laws of this seat's own, over the kit's 'Arrives' and its laws of the machine of one. -/
import Derived.WalkKit
import Derived.Conc.LoneCalls
import Derived.Conc.LoneSelectN
namespace Go.Proofs.Ytmdbpnpbohmofaa
open Go.RowKit Go.Conc

/-- The code comes, in every frame that no initialisation owns, to an exit that Q holds of. -/
def Reaches (P : Program) (c : Code) (Q : Exit → Act → World → Prop) (a : Act) (w : World) : Prop :=
  ∀ b : Frame, b.kind ≠ .early → ∀ (k : List Item) (cs : List Frame), ∃ e a' w', Q e a' w' ∧ Arrives P (lone (b.at a (.code c :: k)) cs w) b k cs e a' w'
/-- The like, of what is left of a region. -/
def OpsReach (P : Program) (ops : Array Oper) (Q : Exit → Act → World → Prop) (l : List Nat) (a : Act) (w : World) : Prop :=
  ∀ b : Frame, b.kind ≠ .early → ∀ (k : List Item) (cs : List Frame), ∃ e a' w', Q e a' w' ∧ Arrives P (lone (b.at a (.inRegion ops l :: k)) cs w) b k cs e a' w'

section
variable {P : Program} {Q : Exit → Act → World → Prop} {a : Act} {w : World}
theorem Reaches.of_wp {c : Code} (h : c.wp P Q a w) : Reaches P c Q a w := fun b _ k cs => h b k cs
theorem Reaches.seq {x y : Code} (h : ∀ K : Act → World → Prop, (∀ a w, Reaches P y Q a w → K a w) → Reaches P x (Exit.then K Q) a w) : Reaches P (.seq x y) Q a w := by
  intro b hb k cs
  obtain ⟨e, a₁, w₁, hq, harr⟩ := h _ (fun _ _ h => h) b hb (.code y :: k) cs
  by_cases he : e = .normal
  · subst he
    obtain ⟨e₂, a₂, w₂, hq₂, harr₂⟩ := hq b hb k cs
    exact ⟨e₂, a₂, w₂, hq₂, .of_steps (.head step_seq harr) harr₂⟩
  · refine ⟨e, a₁, w₁, ?_, .of_steps (.one step_seq) (.pass (x := .code y) rfl (fun _ _ => .inl he) harr)⟩
    cases e <;> first | exact absurd rfl he | exact hq
theorem Reaches.seq_wp {x y : Code} (h : ∀ K : Act → World → Prop, (∀ a w, Reaches P y Q a w → K a w) → x.wp P (Exit.then K Q) a w) : Reaches P (.seq x y) Q a w :=
  Reaches.seq fun K hK => .of_wp (h K hK)
theorem Reaches.cond {c : Operand} {x y : Code} {t : Bool} (hc : a.eval c = .bool t) (h : Reaches P (if t then x else y) Q a w) : Reaches P (.cond c x y) Q a w :=
  fun b hb k cs => let ⟨e, a', w', q, r⟩ := h b hb k cs; ⟨e, a', w', q, .of_steps (.one (step_cond hc)) r⟩
theorem Reaches.region {id : Nat} {ops : Array Oper} (h : OpsReach P ops Q (List.range ops.size) a w) : Reaches P (.region id ops false) Q a w :=
  fun b hb k cs => let ⟨e, a', w', q, r⟩ := h b hb k cs; ⟨e, a', w', q, .of_steps (.one step_region) r⟩
theorem OpsReach.of_wpOps {ops : Array Oper} {l : List Nat} (h : wpOps P ops Q l a w) : OpsReach P ops Q l a w := fun b _ k cs => wp_ops l a w h b k cs
theorem OpsReach.of_wpList {ops : Array Oper} {l : List Oper} (k : Nat) (hl : ∀ j, l[j]? = ops[k + j]?) (h : wpList P ops Q l a w) : OpsReach P ops Q (List.range' k l.length) a w :=
  .of_wpOps (by rw [wpOps_eq_wpList l k hl]; exact h)
theorem OpsReach.tail {o : Oper} {l : List Oper} (h : wpList P (o :: l).toArray Q l a w) : OpsReach P (o :: l).toArray Q (List.range' 1 l.length) a w :=
  OpsReach.of_wpList 1 (fun j => by simp [Nat.add_comm 1 j]) h
/-- An operation that yields a value. -/
theorem OpsReach.value {ops : Array Oper} {i : Nat} {rest : List Nat} {o : Oper} {v : Value} {w' : World} (ho : ops[i]? = some o) (hw : Region.wanted o (yielded ops a.tmps) = true) (hr : (execOp a.eval o).run P w = .ok (.value v) w')
    (h : OpsReach P ops Q rest (a.put o.dst v) w') : OpsReach P ops Q (i :: rest) a w := by
  intro b hb k cs
  obtain ⟨e, a', w'', hq, harr⟩ := h b hb k cs
  refine ⟨e, a', w'', hq, .of_steps (.one (step_lone_go ?_)) harr⟩
  have hfin := Frame.finish_at b a ops i rest k v
  rw [ho] at hfin
  rw [stepG_op ho hw]
  simp only [Option.bind_some] at hfin
  rw [← hfin]; simp [stepG.apply, hr]
section
variable {ops : Array Oper} {i : Nat} {rest : List Nat} {o : Oper} {c cap s r : Nat} {buf : Array Value} {v z : Value}
theorem finish_of (b : Frame) (k : List Item) (ho : ops[i]? = some o) (u : Value) : (b.at a (.inRegion ops (i :: rest) :: k)).finish u = b.at (a.put o.dst u) (.inRegion ops rest :: k) := by
  rw [Frame.finish_at, ho]; rfl
/-- A receive from a channel that holds something. -/
theorem OpsReach.recv (ho : ops[i]? = some o) (hw : Region.wanted o (yielded ops a.tmps) = true) (hr : (execOp a.eval o).run P w = .ok (.comm #[rcase c z] true (.recv false)) w)
    (hc : w.heap[c]? = some (.chan cap buf false s r false)) (hsome : 0 < buf.size)
    (h : OpsReach P ops Q rest (a.put o.dst (buf.getD 0 undef)) (w.setChan c cap (buf.extract 1 buf.size) false s (r + 1) false)) : OpsReach P ops Q (i :: rest) a w := by
  intro b hb k cs
  obtain ⟨e, a', w'', hq, harr⟩ := h b hb k cs
  refine ⟨e, a', w'', hq, .of_steps (.one ?_) harr⟩
  have := step_lone_recv_buf (P := P) (fr := b.at a (.inRegion ops (i :: rest) :: k)) (cs := cs) false (stepG_comm (main := true) ho hw hb hr) hc hsome
  rw [lone_eq_solo, lone_eq_solo, this, finish_of b k ho]
  rfl
/-- A select of one send, with a default: there is room. -/
theorem OpsReach.put (ho : ops[i]? = some o) (hw : Region.wanted o (yielded ops a.tmps) = true) (hr : (execOp a.eval o).run P w = .ok (.comm #[scase c v z] false .select) w)
    (hc : w.heap[c]? = some (.chan cap buf false s r false)) (hroom : buf.size < cap)
    (h : OpsReach P ops Q rest (a.put o.dst (commResult #[scase c v z] .select 0 undef false)) (w.setChan c cap (buf.push v) false (s + 1) r false)) : OpsReach P ops Q (i :: rest) a w := by
  intro b hb k cs
  obtain ⟨e, a', w'', hq, harr⟩ := h b hb k cs
  refine ⟨e, a', w'', hq, .of_steps (.one ?_) harr⟩
  have := step_lone_sel_send_room (P := P) (fr := b.at a (.inRegion ops (i :: rest) :: k)) (cs := cs) (k := 0) (stepG_comm (main := true) ho hw hb hr) rfl
    (fun m c' hm hc' => by rcases m with _ | m; exact absurd rfl hm; simp at hc') hc hroom
  rw [lone_eq_solo, lone_eq_solo, this, finish_of b k ho]
  rfl
/-- .. : there is none. -/
theorem OpsReach.full (ho : ops[i]? = some o) (hw : Region.wanted o (yielded ops a.tmps) = true) (hr : (execOp a.eval o).run P w = .ok (.comm #[scase c v z] false .select) w)
    (hc : w.heap[c]? = some (.chan cap buf false s r false)) (hfull : cap ≤ buf.size)
    (h : OpsReach P ops Q rest (a.put o.dst (commResult #[scase c v z] .select (-1) undef false)) w) : OpsReach P ops Q (i :: rest) a w := by
  intro b hb k cs
  obtain ⟨e, a', w'', hq, harr⟩ := h b hb k cs
  refine ⟨e, a', w'', hq, .of_steps (.one ?_) harr⟩
  have := step_lone_sel_default (P := P) (fr := b.at a (.inRegion ops (i :: rest) :: k)) (cs := cs) (stepG_comm (main := true) ho hw hb hr)
    (fun cc hcc => by simp at hcc; subst hcc; exact noWay_send hc hfull)
  rw [lone_eq_solo, lone_eq_solo, this, finish_of b k ho]
end
/-- A call, from its body. -/
theorem calls_of_reaches {f : FuncId} {fn : Func} {c : Code} {args : Array Value} {R : Ending → World → Prop} (hf : P.funcs[f]? = some fn) (hb : fn.body = some c)
    (h : Reaches P c (bodyPost P fn R) { tmps := args ++ Array.replicate (fn.ntmps - args.size) undef, defers := [] } w) : Calls P f args w R := by
  intro cs
  obtain ⟨b, hbd⟩ : ∃ b : Frame, b = { (default : Frame) with fn := f, kind := .normal } := ⟨_, rfl⟩
  have henter : Frame.enter P f args .normal = b.at { tmps := args ++ Array.replicate (fn.ntmps - args.size) undef, defers := [] } [.code c] := by
    simp [Frame.enter, Frame.at, hf, hb, hbd]
  have hk : b.kind = .normal := by rw [hbd]
  have hfn : b.fn = f := by rw [hbd]
  obtain ⟨e, a', w', hq, harr⟩ := h b (by rw [hk]; simp) [] cs
  rw [← henter] at harr
  match e, hq, harr with
  | .normal, ⟨hd, v, hr, hR⟩, harr => exact ⟨.returned v, w', _, hR, Steps.trans harr (.one step_end), hfn, rfl, hd, hk, fn, by rw [← hfn] at hf; exact hf, hr⟩
  | .ret, ⟨hd, v, hr, hR⟩, ⟨todo, hs⟩ => exact ⟨.returned v, w', _, hR, hs, hfn, rfl, hd, hk, fn, by rw [← hfn] at hf; exact hf, hr⟩
  | .panic chain, ⟨hd, hR⟩, ⟨todo, hs⟩ => exact ⟨.panicked chain, w', _, hR, hs, hfn, rfl, hd, fn, by rw [← hfn] at hf; exact hf⟩
  | .outgrown, hq, harr => exact ⟨.outgrown, w', b, hq, harr.resolve_left (by rw [hk]; simp), hfn, trivial⟩
end
end Go.Proofs.Ytmdbpnpbohmofaa

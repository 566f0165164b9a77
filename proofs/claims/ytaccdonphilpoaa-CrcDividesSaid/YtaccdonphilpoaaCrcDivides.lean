/- Proved: 'Rows.CrcDividesSaid': for every input fairleadlaw02.CrcDivides returns true, and each argument reads afterwards as before. Conditions: none beyond the given row's own. (The frame round the walk was written by the kit's proof-skeleton.mjs.) -/
import Derived.Test.YtaccdonphilpoaaRows
import Derived.WalkKit
import Derived.ProofKit
import Derived.OpenShut
import Derived.ShutString
import Derived.ChangeOld
import Derived.Below
import Derived.Test.YtaccdonphilpoaaShell
import Derived.Test.YtaccdonphilpoaaDiv
import Derived.Test.YtaccdonphilpoaaWorks
import Derived.Test.YtaccdonphilpoaaWalkE
import Derived.RegionTactic
namespace Go.Proofs.Ytaccdonphilpoaa.crcDivides
open Go.ChangeShapes Go.WideShapes Go.ChangeAt Go.RowKit
open Go.ChangeMaps (open_string shut_string)
set_option linter.unusedVariables false

theorem own : ownKnob Try.prog.godebug = none := by kernel_rfl
theorem laidOut : laidOutB Try.prog = true := by kernel_rfl

/-- WHAT THE WALK IS TOLD OF A SLICE OF INTEGERS THAT CAME IN: it is nil; or it leads to a row of 'cap' cells, the numbers 'zs' (the first 'len' are its elements, the rest its spare room), each fitting its kind. -/
def IsRow (k : IntKind) (w : World) (a : Option Addr) (len cap : Nat) (zs : List Int) : Prop :=
  (a = none ∧ len = 0 ∧ cap = 0 ∧ zs = []) ∨
  ∃ x, a = some x ∧ len ≤ cap ∧ cap ≤ maxLen ∧ zs.length = cap ∧ (∀ i, i < zs.length → w.cell? (x.add i) = some (.int k (zs.getD i 0))) ∧ ∀ n ∈ zs, (Lit.int k n).wf = true

/-- The row of bits in a world: of the call's own, and nothing below it turned. -/
def St (l : List Int) (w wr : World) (f : Nat → Bool) : Prop :=
  Below w.heap.size w wr ∧ ∃ z : List Int, z.length = 8 * l.length + 32 ∧ M.Bit01 z f ∧ M.Ints .u8 5 wr w.heap.size z
theorem St.start {l : List Int} {w : World} : St l w (w.alloc (.cells (Array.replicate (8 * l.length + 32) (.int .u8 0)) 5)) fun j => decide (j < 0) && M.textBit l j :=
  ⟨(Below.refl _ _).alloc (Nat.le_refl _) _, _, by simp, fun j _ => by rw [List.getD_eq_getElem?_getD, List.getElem?_replicate]; split <;> simp [M.bi], M.Ints.zeros _ _ _ _⟩
theorem St.congr {l : List Int} {w wr : World} {f g : Nat → Bool} (h : St l w wr f) (hg : ∀ j, j < 8 * l.length + 32 → g j = f j) : St l w wr g := by
  obtain ⟨h1, z, h2, h3, h4⟩ := h
  exact ⟨h1, z, h2, h3.congr (fun j hj => hg j (by omega)), h4⟩

/-! ### STEP 1: THE WALK: the Go text returns true, AND WRITES NOTHING THAT WAS THERE: 'Below w.heap.size w w'' (Derived/Below.lean: '.refl', '.alloc', '.drew', '.setCell' at a new block, '.trans'). Open each 'IsRow' by 'rcases' AHEAD of 'go_enter'; part every test ahead of the walk. -/
set_option maxHeartbeats 2000000 in
set_option maxRecDepth 100000 in
theorem walk (a0 : Option Addr) (len0 cap0 : Nat) (z0 : List Int) (w : World) (w0 : IsRow .u8 w a0 len0 cap0 z0) :
    Calls Try.prog 4 #[.slice a0 len0 cap0] w fun e w' => e = .returned (.bool true) ∧ Below w.heap.size w w' := by
  obtain ⟨l, rfl, hr, hcap, hwf, _⟩ := M.row_of w0
  have hb : M.Bytes l := fun n hn => M.wf_u8 (hwf n hn)
  clear w0 hwf hcap
  have HR := Lib.hid hr
  have HB := Lib.hid hb
  clear hr hb
  by_cases hbig : l.length > 600
  · go_enter Try.func4, Try.ntmps4
    go_wp2_with (go_at_call 9; refine (works_any _).mono ?_; rintro e w' ⟨rfl, hB⟩)
    go_ret
    exact ⟨rfl, hB⟩
  have hmk := run_mk (8 * l.length + 32) (by omega)
  have e32 : ((8 * l.length + 32 : Nat) : Int) = 8 * (l.length : Int) + 32 := by omega
  simp only [e32] at hmk
  clear e32
  go_enter Try.func4, Try.ntmps4
  go_wp2
  clear hmk
  -- the text's bits
  go_loopw [5] (fun i wr => ∃ k : Nat, i = .int .i64 k ∧ k ≤ 8 * l.length ∧ Hid (St l w wr fun j => decide (j < k) && M.textBit l j)) (fun i _ => 8 * l.length - (intOf i).toNat)
  case atStart => exact ⟨0, rfl, Nat.zero_le _, St.start⟩
  case round =>
  obtain ⟨k, rfl, hk, HS⟩ := hrel
  by_cases hlt : k < 8 * l.length
  · obtain ⟨hbl, z, hz, hf, hi⟩ := HS.out
    obtain ⟨b, off, rfl, hc⟩ := (HR.out.kept hbl).at_ (i := k / 8) (by omega)
    have hc8 := HB.out.getD (k / 8)
    have hd := hi.cell (i := k) (by omega)
    have hfr := hi.free k
    obtain ⟨V, hV⟩ : ∃ V, Go.bits .and .u8 (l.getD (k / 8) 0 / 2 ^ (k % 8)) 1 = V := ⟨_, rfl⟩
    have HT : Hid (St l w (wr.setCell ⟨w.heap.size, k, none⟩ (.int .u8 V)) fun j => decide (j < k + 1) && M.textBit l j) := by
      refine ⟨hbl.setCell (p := ⟨w.heap.size, k, none⟩) (Nat.le_refl _) _, z.set k V, by rw [List.length_set]; exact hz, hf.set ?_ ?_, hi.set k V⟩
      · rw [← hV, M.byte_bit _ _ hc8]; simp [M.textBit, M.bi]
      · intro j hj
        have : decide (j < k + 1) = decide (j < k) := by rw [decide_eq_decide]; omega
        simp only [this]
    obtain ⟨c, hcd⟩ : ∃ c, l.getD (k / 8) 0 = c := ⟨_, rfl⟩
    rw [hcd] at hc hc8 hV
    obtain ⟨c2, hcd2⟩ : ∃ c, z.getD k 0 = c := ⟨_, rfl⟩
    rw [hcd2] at hd
    clear hcd hcd2 hbl hz hf hi HS
    have hm8 : (k : Int) / 8 < l.length := by omega
    have hm0 : 0 ≤ (k : Int) / 8 := by omega
    go_wp2
    go_roundw
    case rel => exact ⟨k + 1, by go_num, by omega, HT⟩
    case measure => (simp [intOf] <;> omega)
  have hkn : k = 8 * l.length := by omega
  have hge : 8 * (l.length : Int) ≤ k := by omega
  replace HS := Lib.hid (HS.out.congr (g := fun j => M.full l j ^^ decide (j < 0)) (fun j _ => by simp [M.full, hkn]))
  clear hlt hk hkn
  go_wp2
  clear hge
  obtain ⟨wo, hwo⟩ : ∃ wo : World, wo = wr := ⟨_, rfl⟩
  subst hwo
  -- the first 32 of them turned
  go_loopw [6] (fun i wr => ∃ k : Nat, i = .int .i64 k ∧ k ≤ 32 ∧ Hid (St l w wr fun j => M.full l j ^^ decide (j < k))) (fun i _ => 32 - (intOf i).toNat)
  case atStart => exact ⟨0, rfl, Nat.zero_le _, HS⟩
  case round =>
  clear HS
  obtain ⟨k, rfl, hk, HS⟩ := hrel
  by_cases hlt : k < 32
  · obtain ⟨hbl, z, hz, hf, hi⟩ := HS.out
    have hd := hi.cell (i := k) (by omega)
    have hfr := hi.free k
    have hv : z.getD k 0 = M.bi (M.full l k) := by
      have := hf k (by omega)
      simpa using this
    have HT : Hid (St l w (wr.setCell ⟨w.heap.size, k, none⟩ (.int .u8 (1 - z.getD k 0))) fun j => M.full l j ^^ decide (j < k + 1)) := by
      refine ⟨hbl.setCell (p := ⟨w.heap.size, k, none⟩) (Nat.le_refl _) _, z.set k _, by rw [List.length_set]; exact hz, hf.set ?_ ?_, hi.set k _⟩
      · rw [hv, M.turn_bi]; simp
      · intro j hj
        have : decide (j < k + 1) = decide (j < k) := by rw [decide_eq_decide]; omega
        simp only [this]
    have hv01 := M.bi_cases (M.full l k)
    rw [← hv] at hv01
    obtain ⟨c, hcd⟩ : ∃ c, z.getD k 0 = c := ⟨_, rfl⟩
    rw [hcd] at hd HT hv01
    have hc1 : 0 ≤ c ∧ c ≤ 1 := by omega
    clear hcd hbl hz hf hi hv hv01 HS
    go_wp2
    go_roundw
    case rel => exact ⟨k + 1, by go_num, by omega, HT⟩
    case measure => (simp [intOf] <;> omega)
  have hkn : k = 32 := by omega
  have hge : 32 ≤ (k : Int) := by omega
  have HH : Hid (∃ f, M.Hand l 0 f ∧ St l w wr f) := ⟨_, M.Hand.start (fun _ => rfl), by rw [hkn] at HS; exact HS.out⟩
  clear hlt hk HS hkn
  go_wp2
  clear hge
  obtain ⟨wo, hwo⟩ : ∃ wo : World, wo = wr := ⟨_, rfl⟩
  subst hwo
  -- the division
  go_loopw [8] (fun i wr => ∃ k : Nat, i = .int .i64 k ∧ k ≤ 8 * l.length ∧ Hid (∃ f, M.Hand l k f ∧ St l w wr f)) (fun i _ => 8 * l.length - (intOf i).toNat)
  case atStart => exact ⟨0, rfl, Nat.zero_le _, HH⟩
  case round =>
  clear HH
  obtain ⟨k, rfl, hk, HH⟩ := hrel
  by_cases hlt : k < 8 * l.length
  · obtain ⟨f, hf, hst⟩ := HH.out
    have HF := Lib.hid hf
    have HS := Lib.hid hst
    have hkk : (k : Int) < 8 * (l.length : Int) + 32 := by omega
    clear hf hst HH
    cases hfk : f k with
    | false =>
      have HT : Hid (∃ f, M.Hand l (k + 1) f ∧ St l w wr f) := ⟨f, HF.out.no hlt hfk, HS.out⟩
      have hd : wr.cell? ⟨w.heap.size, k, none⟩ = some (.int .u8 0) := by
        obtain ⟨hbl, z, hz, hf, hi⟩ := HS.out
        rw [hi.cell (i := k) (by omega), hf k (by omega), hfk]; rfl
      clear hfk HF HS
      go_wp2
      obtain ⟨wo, hwo⟩ : ∃ wo : World, wo = wr := ⟨_, rfl⟩
      subst hwo
      go_loopw [9] (fun q wr2 => q = .int .i64 0 ∧ wr2 = wo) (fun _ _ => 0)
      case atStart => exact ⟨rfl, rfl⟩
      case round =>
        obtain ⟨rfl, rfl⟩ := hrel
        go_wp2
        go_roundw
        case rel => exact ⟨k + 1, by go_num, by omega, HT⟩
        case measure => (simp [intOf] <;> omega)
    | true =>
      have HQ : Hid (St l w wr (M.part f k 0)) := HS.out.congr (fun j _ => M.part_zero f k j)
      have hb53 : decide ((k : Int) < 8 * (l.length : Int)) = true := by simp; omega
      go_wp2
      obtain ⟨wo, hwo⟩ : ∃ wo : World, wo = wr := ⟨_, rfl⟩
      subst hwo
      go_loopw [9] (fun q wr2 => ∃ t : Nat, q = .int .i64 t ∧ t ≤ 33 ∧ Hid (St l w wr2 (M.part f k t))) (fun q _ => 33 - (intOf q).toNat)
      case atStart => exact ⟨0, rfl, by omega, HQ⟩
      case round =>
      clear HQ HS
      obtain ⟨t, rfl, ht, HS⟩ := hrel
      by_cases ht33 : t < 33
      · obtain ⟨hbl, z, hz, hf, hi⟩ := HS.out
        have hd : wr.cell? ⟨w.heap.size, k, none⟩ = some (.int .u8 1) := by
          rw [hi.cell (i := k) (by omega), hf k (by omega), M.part_at, hfk]; rfl
        by_cases ht0 : 0 < t
        · have hd2 := hi.cell (i := k + t) (by omega)
          have hfr2 := hi.free (k + t)
          have hv := hf (k + t) (by omega)
          have hby := M.by_bit t ht0 (by omega)
          obtain ⟨V, hV⟩ : ∃ V, M.bi (M.poly.getLsbD (t - 1)) = V := ⟨_, rfl⟩
          have hV01 : 0 ≤ V ∧ V ≤ 1 := by have := M.bi_cases (M.poly.getLsbD (t - 1)); omega
          obtain ⟨X, hX⟩ : ∃ X, Go.bits .xor .u8 (z.getD (k + t) 0) V = X := ⟨_, rfl⟩
          have HT : ∀ wr2 : World, wr2 = (wr.setCell ⟨w.heap.size, k + t, none⟩ (.int .u8 X)).drew → Hid (St l w wr2 (M.part f k (t + 1))) := by
            rintro _ rfl
            refine ⟨(hbl.setCell (p := ⟨w.heap.size, k + t, none⟩) (Nat.le_trans (Nat.le_refl _) (Nat.le_refl _)) _).drew, z.set (k + t) X, by rw [List.length_set]; exact hz, hf.set ?_ ?_, hi.set (k + t) X⟩
            · rw [← hX, ← hV, hv, M.xor_bi, M.part_here f k t ht0]
            · intro j hj; exact M.part_succ f k t j hj
          have HTT := Lib.hid HT
          obtain ⟨c, hcd⟩ : ∃ c, z.getD (k + t) 0 = c := ⟨_, rfl⟩
          rw [hcd] at hd2 hX
          rw [hV] at hby
          have hp1 : 0 ≤ (32 : Int) - t := by omega
          have hp2 : (32 : Int) - t ≤ 64 := by omega
          have hi1 : 0 ≤ (k : Int) + t := by omega
          have hi2 : (k : Int) + t < 8 * (l.length : Int) + 32 := by omega
          clear hcd hbl hz hf hi hv hV HT HS hfk HF
          go_wp2
          go_region
          go_wp2
          go_roundw
          case rel => exact ⟨t + 1, by go_num, by omega, HTT.out _ rfl⟩
          case measure => (simp [intOf] <;> omega)
        · obtain rfl : t = 0 := by omega
          have HT : Hid (St l w wr (M.part f k (0 + 1))) := HS.out.congr (fun j _ => by rw [M.part_one, M.part_zero])
          clear hbl hz hf hi HS hfk HF
          go_wp2
          go_roundw
          case rel => exact ⟨1, by go_num, by omega, HT⟩
          case measure => (simp [intOf] <;> omega)
      · obtain rfl : t = 33 := by omega
        have HT : Hid (∃ f, M.Hand l (k + 1) f ∧ St l w wr f) := ⟨_, HF.out.yes hlt hfk, HS.out⟩
        clear hfk HF HS
        go_wp2
        go_roundw
        case rel => exact ⟨k + 1, by go_num, by omega, HT⟩
        case measure => (simp [intOf] <;> omega)
  have hkn : k = 8 * l.length := by omega
  have hge : 8 * (l.length : Int) ≤ k := by omega
  rw [hkn] at HH
  clear hlt hk hkn
  go_wp2
  clear hge
  obtain ⟨wo, hwo⟩ : ∃ wo : World, wo = wr := ⟨_, rfl⟩
  subst hwo
  -- what is left
  go_loopw [10, 11] (fun x i wr => ∃ (X : Int) (k : Nat), x = .int .u32 X ∧ i = .int .i64 k ∧ k ≤ 32 ∧ wr = wo ∧ Hid (M.Low (M.reg l (8 * l.length)) k X)) (fun _ i _ => 32 - (intOf i).toNat)
  case atStart => exact ⟨0, 0, rfl, rfl, Nat.zero_le _, rfl, Lib.hid (M.Low.start _)⟩
  case round =>
  obtain ⟨X, k, rfl, rfl, hk, rfl, HX⟩ := hrel
  by_cases hlt : k < 32
  · obtain ⟨f, hhand, hbl, z, hz, hf, hi⟩ := HH.out
    have hd := hi.cell (i := 8 * l.length + k) (by omega)
    have hv : z.getD (8 * l.length + k) 0 = M.bi ((M.reg l (8 * l.length)).getLsbD k) := by rw [hf _ (by omega), hhand.done]
    have HT := Lib.hid (HX.out.next hlt)
    rw [← M.turn_bi', ← hv] at HT
    have hv01 := M.bi_cases ((M.reg l (8 * l.length)).getLsbD k)
    rw [← hv] at hv01
    obtain ⟨c, hcd⟩ : ∃ c, z.getD (8 * l.length + k) 0 = c := ⟨_, rfl⟩
    rw [hcd] at hd HT hv01
    have hc1 : 0 ≤ c ∧ c ≤ 1 := by omega
    have hi1 : 0 ≤ 8 * (l.length : Int) + k := by omega
    have hi2 : 8 * (l.length : Int) + k < 8 * (l.length : Int) + 32 := by omega
    clear hcd hbl hz hf hi hv hv01 hhand
    go_wp2
    go_roundw
    case rel => exact ⟨_, k + 1, rfl, by go_num, by omega, trivial, HT⟩
    case measure => (simp [intOf] <;> omega)
  obtain rfl : k = 32 := by omega
  have HE : Hid (M.sumOf 0 l = X) := by rw [Hid, M.sum_reg l HB.out]; exact HX.out.done.symm
  obtain ⟨f, hhand, hbl, _⟩ := HH.out
  have HBL := Lib.hid hbl
  have C1 : Hid (Calls Try.prog 13 #[.slice a0 l.length cap0] wr fun e w' => e = .returned (.int .u32 X) ∧ wr = w') := by
    rw [Hid, ← HE.out]; exact sum_any a0 l cap0 _ (by omega) (HR.out.kept HBL.out) HB.out
  clear hbl hhand HH HX hlt hk
  go_wp2_with (first
    | (go_at_call 13; (with_reducible refine C1.out.mono ?_); rintro e w' ⟨rfl, rfl⟩)
    | (go_at_call 9; (with_reducible refine (works_any _).mono ?_); rintro e w' ⟨rfl, hB⟩))
  go_ret
  exact ⟨rfl, HBL.out.trans (hB.mono HBL.out.size)⟩

/-! ### THE ROW's STEP: WRITTEN OUT: LEAVE IT -/
set_option maxRecDepth 100000 in
theorem lifted (os : Os) (started : os.Started) (H : Type) (enc : TypeId × Value → H) :
    ReturnsInHanded {} Try.checked os 4 .any (Rows.crcDividesSpec.pre6 enc Try.prog Try.f4 Rows.crcDividesRow.domain false) (Rows.crcDividesSpec.post enc Try.prog Try.f4 false true false false) := by
  refine returnsInHanded_of_change (C := Try.checked) own started (by kernel_rfl) Try.func4
    (ChangeSpec.witness6 (enc := enc) (C := Try.checked) false ⟨#[], #[.slice none 0 0], []⟩ 8 (by kernel_rfl) (by kernel_rfl) (by kernel_rfl) (by kernel_rfl)) ?_
  intro W base args ds gs before hval0 hW hcnd _
  have hval : ∀ (j : Nat) t v, Try.f4.params[j]? = some t → args[j]? = some v → Value.okWide Try.prog W .any base t v := hval0
  have hW' := hW
  obtain ⟨p, q, hA0, hV, rfl, hfz, hnd⟩ := hW
  have hA : DataW.TrodAll enc Try.prog W 0 (fun _ => true) true Try.f4.params.toList args.toList ds p := hA0
  rw [Try.params4] at hA hval
  obtain ⟨v0, vs0, d0, ds0, p0, q0, hargs, rfl, rfl, h0, r0⟩ := trodAll_cons hA
  obtain ⟨rfl, rfl, rfl⟩ := trodAll_nil r0
  obtain rfl : args = #[v0] := by cases args; simp_all
  obtain ⟨rfl, rfl⟩ := trodVars_none hV
  obtain ⟨a0, len0, cap0, rfl⟩ := okWide_slice Try.underlying22 (hval 0 22 v0 rfl rfl)
  have k0 := h0
  have lt0 : ∀ x ∈ p0, x.block < W.heap.size := by obtain ⟨m, hm⟩ := k0; exact DataW.trod_lt m _ _ _ hm
  obtain ⟨z0, w0⟩ : ∃ zs, IsRow .u8 W a0 len0 cap0 zs := by
    obtain ⟨fuel, hf⟩ := h0
    rcases open_ints Try.underlying22 Try.underlying5 (by kernel_rfl) hf with ⟨hcs, _⟩ | ⟨x, l, c, zs, hcs, _, hl, hm, hz, _, hcell, hwz⟩
    · simp [Value.cells] at hcs
      obtain ⟨rfl, rfl, rfl⟩ := hcs
      exact ⟨[], .inl ⟨rfl, rfl, rfl, rfl⟩⟩
    · simp [Value.cells] at hcs
      obtain ⟨rfl, rfl, rfl⟩ := hcs
      exact ⟨zs, .inr ⟨_, rfl, hl, hm, by simpa using hz, hcell, hwz⟩⟩
  clear hA0 hval0
  refine (walk a0 len0 cap0 z0 W w0).mono fun e W' ⟨he, bel⟩ => ?_
  subst he
  exact ⟨_, rfl, _, _, _, [], _, [], hW', trodAll_mk1 (shut_bool Try.underlying4 _), (trodAll_cons_mk (Below.trod laidOut (by kernel_rfl) (of_decide_eq_true (by kernel_rfl)) k0 bel lt0) trodAll_mk0), rfl, bel.frame _, fun h => by cases h⟩

theorem over : Rows.crcDividesRow.holds Try.pinned (OpenSpec.ofChange Rows.crcDividesSpec) :=
  OpenClaim.holds_of_wide 4 Try.f4 rfl rfl rfl rfl rfl rfl rfl ⟨rfl, rfl, rfl, rfl, rfl⟩ rfl rfl rfl rfl rfl (by kernel_rfl) Try.func4 (by kernel_rfl)
    (of_decide_eq_true (by kernel_rfl)) (by unfold Func.isWrapper; first | (rw [if_pos (by decide +kernel)]; kernel_rfl) | (rw [if_neg (by decide +kernel)]; exact ⟨rfl, rfl⟩))
    (fun os started H enc _ => lifted os started H enc)

/-- ████ THE STATEMENT ████ -/
theorem proved : Rows.CrcDividesSaid := over
#print axioms proved
end Go.Proofs.Ytaccdonphilpoaa.crcDivides

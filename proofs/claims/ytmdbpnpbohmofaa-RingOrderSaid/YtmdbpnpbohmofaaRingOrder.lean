/- Proved: 'Rows.RingOrderSaid': for every input fairleadlaw05.RingOrder returns true, and each argument reads afterwards as before. Conditions: none beyond the given row's own. -/
import Derived.Test.YtmdbpnpbohmofaaRows
import Derived.WalkKit
import Derived.ProofKit
import Derived.OpenShut
import Derived.ShutString
import Derived.ChangeOld
import Derived.ChangeMaps5
import Derived.Below
import Derived.Test.YtmdbpnpbohmofaaShell
import Derived.Test.YtmdbpnpbohmofaaSeq
import Derived.Test.YtmdbpnpbohmofaaWorks
namespace Go.Proofs.Ytmdbpnpbohmofaa.ringOrder
open Go.ChangeShapes Go.WideShapes Go.ChangeAt Go.RowKit
open Go.ChangeMaps (open_string shut_string)
set_option linter.unusedVariables false
open M

theorem own : ownKnob Try.prog.godebug = none := by kernel_rfl
theorem laidOut : laidOutB Try.prog = true := by kernel_rfl

set_option maxHeartbeats 2000000 in
set_option maxRecDepth 100000 in
theorem walk (a0 : Int) (a1 : Option Addr) (cap1 : Nat) (l1 : List Int) (a2 : Option Addr) (cap2 : Nat) (l2 : List Int) (w : World) (w0 : (Lit.int .u8 a0).wf = true) (r1 : Row .u32 w a1 l1) (w1 : ∀ n ∈ l1, (Lit.int .u32 n).wf = true) (r2 : Row .u8 w a2 l2) (w2 : ∀ n ∈ l2, (Lit.int .u8 n).wf = true) :
    Calls Try.prog 5 #[.int .u8 a0, .slice a1 l1.length cap1, .slice a2 l2.length cap2] w fun e w' => e = .returned (.bool true) ∧ Below w.heap.size w w' := by
  have hb := wf_u8 w0
  have HW2 : Hid (∀ n ∈ l2, 0 ≤ n ∧ n ≤ 255) := fun n hn => wf_u8 (w2 n hn)
  have HR1 := Lib.hid r1
  have HR2 := Lib.hid r2
  clear w0 w1 w2 r1 r2
  obtain ⟨h0, h1⟩ := hb
  by_cases hg1 : 300 < (l1.length : Int)
  · go_enter Try.func5, Try.ntmps5
    go_wp2_with (go_at_call 16; (with_reducible refine (works_any _).mono ?_); rintro e w4 ⟨rfl, hB⟩)
    go_ret
    exact ⟨rfl, hB⟩
  by_cases hg2 : 300 < (l2.length : Int)
  · go_enter Try.func5, Try.ntmps5
    go_wp2_with (go_at_call 16; (with_reducible refine (works_any _).mono ?_); rintro e w4 ⟨rfl, hB⟩)
    go_ret
    exact ⟨rfl, hB⟩
  obtain ⟨n, hn⟩ : ∃ n : Nat, 1 + a0 = (n : Int) := ⟨(1 + a0).toNat, by omega⟩
  have n1 : 1 ≤ (n : Int) := by omega
  have n2 : (n : Int) ≤ 1048576 := by omega
  obtain ⟨b, hb⟩ : ∃ b, w.heap.size + 1 = b := ⟨_, rfl⟩
  have C0 := newU n n rfl w n1 n2
  rw [hb] at C0
  have CN := Lib.hid C0
  clear hb C0
  go_enter Try.func5, Try.ntmps5
  go_wp2_with fail
  (go_at_call 10; (with_reducible refine CN.out.mono ?_); rintro e w1 ⟨rfl, HH⟩)
  clear CN
  go_wp2_with fail
  clear hn h0 h1
  have HS := Lib.hid (St.start HH.out)
  have hL1 : (l1.length : Int) ≤ 300 := by omega
  have hL2 : (l2.length : Int) ≤ 300 := by omega
  clear HH hg1 hg2
  obtain ⟨wo, hwo⟩ : ∃ wo : World, wo = w1 := ⟨_, rfl⟩
  subst hwo
  go_loopw [10, 11, 12] (fun v f i wr => ∃ (j fi cap : Nat) (A : Option Addr) (wl : List Int), v = .slice A wl.length cap ∧ f = .int .i64 fi ∧ i = .int .i64 j ∧ j ≤ l1.length ∧ wl.length ≤ j ∧ fi ≤ wl.length ∧ Hid (St w wr b n (wl.drop fi) (.slice A wl.length cap) wl)) (fun _ _ i _ => l1.length - (intOf i).toNat)
  case atStart =>
    exact ⟨0, 0, 0, none, [], rfl, rfl, rfl, by omega, by simp, by simp, HS⟩
  case round =>
  clear HS
  obtain ⟨j, fi, cap, A, wl, rfl, rfl, rfl, hj, hwj, hfw, HS⟩ := hrel
  have hj' : (j : Int) ≤ 300 := by omega
  have hw' : (wl.length : Int) ≤ 300 := by omega
  have hf' : (fi : Int) ≤ (wl.length : Int) := by omega
  by_cases hlt : j < l1.length
  case neg =>
    have hlt' : ¬ (j : Int) < (l1.length : Int) := by omega
    obtain rfl : j = l1.length := by omega
    clear hlt hj' hj
    go_wp2_with fail
    obtain ⟨wi, hwi⟩ : ∃ wi : World, wi = wr := ⟨_, rfl⟩
    subst hwi
    go_loopw [11] (fun f wr => ∃ (fk : Nat), f = .int .i64 fk ∧ fk ≤ wl.length ∧ Hid (St w wr b n (wl.drop fk) (.slice A wl.length cap) wl)) (fun f _ => wl.length - (intOf f).toNat)
    case atStart => exact ⟨fi, rfl, hfw, HS⟩
    case round =>
      clear HS
      obtain ⟨fk, rfl, hfk, HS⟩ := hrel
      by_cases hf : fk < wl.length
      case pos =>
        have hf' : (fk : Int) < (wl.length : Int) := by omega
        have hd3 : decide (fk < wl.length) = true := by simpa using hf
        have h0 := HS.out
        rw [List.drop_eq_getElem_cons hf, show wl[fk] = wl.getD fk 0 by simp [List.getD_eq_getElem?_getD, hf]] at h0
        have CP := Lib.hid h0.pop
        clear h0 HS
        go_wp2_with fail
        (go_at_call 13; (with_reducible refine CP.out.mono ?_); rintro e w5 ⟨rfl, HS⟩)
        clear CP
        obtain ⟨g, cc, hv, hcell⟩ := HS.out.cell hf
        simp only [Value.slice.injEq] at hv
        obtain ⟨rfl, _, rfl⟩ := hv
        go_wp2_with fail
        go_roundw
        case rel => exact ⟨fk + 1, by go_num, by omega, HS⟩
        case measure => (simp [intOf] <;> omega)
      case neg =>
        obtain rfl : fk = wl.length := by omega
        have hh := HS.out.holds
        rw [List.drop_length] at hh
        change Holds 72 23 w _ b n [] at hh
        have CL := Lib.hid (lenU hh 0 rfl)
        have CR := Lib.hid (roomU hh (n : Int) (by simp))
        clear hh HS
        have hnn : ¬ (wl.length : Int) < (wl.length : Int) := by omega
        go_wp2_with fail
        (go_at_call 14; (with_reducible refine CL.out.mono ?_); rintro e w' ⟨rfl, rfl⟩)
        go_wp2_with fail
        (go_at_call 11; (with_reducible refine CR.out.mono ?_); rintro e w6 ⟨rfl, HH⟩)
        have HB := Lib.hid HH.out.below
        clear HH CL CR
        go_wp2_with (go_at_call 16; (with_reducible refine (works_any _).mono ?_); rintro e w4 ⟨rfl, hB⟩)
        go_ret
        exact ⟨rfl, HB.out.trans (hB.mono HB.out.size)⟩
  have hlt' : (j : Int) < (l1.length : Int) := by omega
  obtain ⟨b1, o1, rfl, hc1⟩ := HR1.out.at_ hlt
  obtain ⟨x, hx⟩ : ∃ x, l1.getD j 0 = x := ⟨_, rfl⟩
  have hb1 := World.block_lt_of_cell? w _ hc1
  rw [hx] at hc1
  clear hx
  have HC1 := Lib.hid hc1
  rw [← HS.out.below.cell (p := ⟨b1, _, none⟩) hb1] at hc1
  have HB1 := Lib.hid hb1
  clear hb1
  have HL : Hid ((wl.drop fi).length = wl.length - fi) := List.length_drop
  by_cases hfit : wl.length - fi < n
  · have hd0 : decide ((wl.length : Int) - (fi : Int) < (n : Int)) = true := by simp; omega
    have CP := Lib.hid (HS.out.push (by rw [HL.out]; exact hfit) x)
    clear HS
    go_wp2_with fail
    (go_at_call 12; (with_reducible refine CP.out.mono ?_); rintro e w2 ⟨rfl, HS⟩)
    clear CP hc1
    have hc1 : w2.cell? ⟨b1, o1 + j, none⟩ = some (.int .u32 x) := by rw [HS.out.below.cell (p := ⟨b1, _, none⟩) HB1.out]; exact HC1.out
    obtain ⟨i0, hi, hz0, hz1, hz2⟩ := info_parts info23
    have HI := Lib.hid (And.intro hi (And.intro hz0 (And.intro hz1 hz2)))
    clear hi hz0 hz1 hz2
    have HO : Hid (w2.ownsRow 0 23 1 (.slice A wl.length cap) wl.length (wl.map (Value.int .u32))) := let ⟨_, _, q, _⟩ := HS.out; q
    go_wp2_with (at_builtin; refine wpList_append_own_at _ rfl _ _ 40 rfl 0 23 i0 (.int .u32 0) 1 4 Try.underlying40 HI.out.1 HI.out.2.1 HI.out.2.2.1 HI.out.2.2.2 rfl (by decide) (.slice A wl.length cap) wl.length (wl.map (Value.int .u32)) rfl (HO.out.alloc _) _ 1 1 [.int .u32 x] rfl rfl (cell_one_new _ _ _) (fun u hu => by simp at hu; subst hu; rfl) (by simp only [maxLen]; omega) (by omega) (Nat.zero_le _) ?_)
    intro v' w3 hown hgrow hnil hat
    have HS2 := Lib.hid (HS.out.append x hown hgrow (by simpa using hat))
    clear hown hgrow hnil hat HO HS hc1
    obtain ⟨A', cap', rfl⟩ := HS2.out.form
    obtain ⟨wl', hwl⟩ : ∃ wl' : List Int, wl ++ [x] = wl' := ⟨_, rfl⟩
    have hlen : wl'.length = wl.length + 1 := by rw [← hwl]; simp
    have HD : Hid (wl'.drop fi = wl.drop fi ++ [x]) := by rw [← hwl]; exact List.drop_append_of_le_length hfw
    rw [hwl, ← HD.out] at HS2
    rw [hwl]
    clear hwl HD
    go_wp2_with fail
    have hfw' : fi ≤ wl'.length := by omega
    have hwl' : (wl'.length : Int) ≤ 300 := by omega
    have hwj' : wl'.length ≤ j + 1 := by omega
    have HS := HS2
    clear HS2 hlen hfw hd0 hfit hf' hw'
    obtain ⟨wi, hwi⟩ : ∃ wi : World, wi = w3 := ⟨_, rfl⟩
    subst hwi
    go_loopw [11, 14] (fun f k wr => ∃ (fk q : Nat), f = .int .i64 fk ∧ k = .int .i64 q ∧ fk ≤ wl'.length ∧ q ≤ 4 ∧ Hid (St w wr b n (wl'.drop fk) (.slice A' wl'.length cap') wl')) (fun _ k _ => 5 - (intOf k).toNat)
    case atStart => exact ⟨fi, 0, rfl, rfl, hfw', by omega, HS⟩
    case round =>
      clear HS
      obtain ⟨fk, q, rfl, rfl, hfk, hq, HS⟩ := hrel
      have hfk' : (fk : Int) ≤ (wl'.length : Int) := by omega
      have hq' : (q : Int) ≤ 4 := by omega
      by_cases hp : j < l2.length
      case neg =>
        have hp' : ¬ (j : Int) < (l2.length : Int) := by omega
        have hd : decide (j < l2.length) = false := by simpa using hp
        go_wp2_with fail
        go_roundw
        case rel => exact ⟨j + 1, fk, cap', A', wl', rfl, rfl, by go_num, by omega, by omega, hfk, HS⟩
        case measure => (simp [intOf] <;> omega)
      have hp' : (j : Int) < (l2.length : Int) := by omega
      have hd : decide (j < l2.length) = true := by simpa using hp
      obtain ⟨b2, o2, rfl, hc2⟩ := HR2.out.at_ hp
      obtain ⟨p, hpv⟩ : ∃ p, l2.getD j 0 = p := ⟨_, rfl⟩
      have hpb : 0 ≤ p ∧ p ≤ 255 := by
        rw [← hpv, List.getD_eq_getElem?_getD, List.getElem?_eq_getElem hp]
        exact HW2.out _ (List.getElem_mem hp)
      obtain ⟨p0, p1⟩ := hpb
      rw [hpv, ← HS.out.below.cell (p := ⟨b2, _, none⟩) (World.block_lt_of_cell? w _ hc2)] at hc2
      clear hpv
      by_cases hqp : (q : Int) < p % 5
      case neg =>
        have hd2 : decide ((q : Int) < p % 5) = false := by simpa using hqp
        go_wp2_with fail
        go_roundw
        case rel => exact ⟨j + 1, fk, cap', A', wl', rfl, rfl, by go_num, by omega, by omega, hfk, HS⟩
        case measure => (simp [intOf] <;> omega)
      have hd2 : decide ((q : Int) < p % 5) = true := by simpa using hqp
      by_cases hf : fk < wl'.length
      case pos =>
        have hf' : (fk : Int) < (wl'.length : Int) := by omega
        have hd3 : decide (fk < wl'.length) = true := by simpa using hf
        have h0 := HS.out
        rw [List.drop_eq_getElem_cons hf, show wl'[fk] = wl'.getD fk 0 by simp [List.getD_eq_getElem?_getD, hf]] at h0
        have CP := Lib.hid h0.pop
        clear h0 HS
        go_wp2_with fail
        (go_at_call 13; (with_reducible refine CP.out.mono ?_); rintro e w5 ⟨rfl, HS⟩)
        clear CP hc2
        obtain ⟨g, cc, hv, hcell⟩ := HS.out.cell hf
        simp only [Value.slice.injEq] at hv
        obtain ⟨rfl, _, rfl⟩ := hv
        go_wp2_with fail
        go_roundw
        case rel => exact ⟨fk + 1, q + 1, by go_num, by go_num, by omega, by omega, HS⟩
        case measure => (simp [intOf] <;> omega)
      case neg =>
        obtain rfl : fk = wl'.length := by omega
        have h0 := HS.out
        rw [List.drop_length] at h0
        have CP := Lib.hid h0.pop_no
        clear h0
        go_wp2_with fail
        (go_at_call 13; (with_reducible refine CP.out.mono ?_); rintro e w' ⟨rfl, rfl⟩)
        clear CP hc2
        go_wp2_with fail
        go_roundw
        case rel => exact ⟨wl'.length, q + 1, by go_num, by go_num, by omega, by omega, HS⟩
        case measure => (simp [intOf] <;> omega)
  · have hd0 : decide ((wl.length : Int) - (fi : Int) < (n : Int)) = false := by simp; omega
    have hfull : (wl.drop fi).length = n := by have := HS.out.holds.bound.1; rw [List.length_map] at this; have := HL.out; omega
    have CP := Lib.hid (HS.out.push_no hfull x)
    clear hfull
    go_wp2_with fail
    (go_at_call 12; (with_reducible refine CP.out.mono ?_); rintro e w' ⟨rfl, rfl⟩)
    clear CP hc1
    go_wp2_with fail
    have hwl' : (wl.length : Int) ≤ 300 := hw'
    clear hd0 hfit hf' hw'
    obtain ⟨wi, hwi⟩ : ∃ wi : World, wi = wr := ⟨_, rfl⟩
    subst hwi
    go_loopw [11, 14] (fun f k wr => ∃ (fk q : Nat), f = .int .i64 fk ∧ k = .int .i64 q ∧ fk ≤ wl.length ∧ q ≤ 4 ∧ Hid (St w wr b n (wl.drop fk) (.slice A wl.length cap) wl)) (fun _ k _ => 5 - (intOf k).toNat)
    case atStart => exact ⟨fi, 0, rfl, rfl, hfw, by omega, HS⟩
    case round =>
      clear HS
      obtain ⟨fk, q, rfl, rfl, hfk, hq, HS⟩ := hrel
      have hfk' : (fk : Int) ≤ (wl.length : Int) := by omega
      have hq' : (q : Int) ≤ 4 := by omega
      by_cases hp : j < l2.length
      case neg =>
        have hp' : ¬ (j : Int) < (l2.length : Int) := by omega
        have hd : decide (j < l2.length) = false := by simpa using hp
        go_wp2_with fail
        go_roundw
        case rel => exact ⟨j + 1, fk, cap, A, wl, rfl, rfl, by go_num, by omega, by omega, hfk, HS⟩
        case measure => (simp [intOf] <;> omega)
      have hp' : (j : Int) < (l2.length : Int) := by omega
      have hd : decide (j < l2.length) = true := by simpa using hp
      obtain ⟨b2, o2, rfl, hc2⟩ := HR2.out.at_ hp
      obtain ⟨p, hpv⟩ : ∃ p, l2.getD j 0 = p := ⟨_, rfl⟩
      have hpb : 0 ≤ p ∧ p ≤ 255 := by
        rw [← hpv, List.getD_eq_getElem?_getD, List.getElem?_eq_getElem hp]
        exact HW2.out _ (List.getElem_mem hp)
      obtain ⟨p0, p1⟩ := hpb
      rw [hpv, ← HS.out.below.cell (p := ⟨b2, _, none⟩) (World.block_lt_of_cell? w _ hc2)] at hc2
      clear hpv
      by_cases hqp : (q : Int) < p % 5
      case neg =>
        have hd2 : decide ((q : Int) < p % 5) = false := by simpa using hqp
        go_wp2_with fail
        go_roundw
        case rel => exact ⟨j + 1, fk, cap, A, wl, rfl, rfl, by go_num, by omega, by omega, hfk, HS⟩
        case measure => (simp [intOf] <;> omega)
      have hd2 : decide ((q : Int) < p % 5) = true := by simpa using hqp
      by_cases hf : fk < wl.length
      case pos =>
        have hf' : (fk : Int) < (wl.length : Int) := by omega
        have hd3 : decide (fk < wl.length) = true := by simpa using hf
        have h0 := HS.out
        rw [List.drop_eq_getElem_cons hf, show wl[fk] = wl.getD fk 0 by simp [List.getD_eq_getElem?_getD, hf]] at h0
        have CP := Lib.hid h0.pop
        clear h0 HS
        go_wp2_with fail
        (go_at_call 13; (with_reducible refine CP.out.mono ?_); rintro e w5 ⟨rfl, HS⟩)
        clear CP hc2
        obtain ⟨g, cc, hv, hcell⟩ := HS.out.cell hf
        simp only [Value.slice.injEq] at hv
        obtain ⟨rfl, _, rfl⟩ := hv
        go_wp2_with fail
        go_roundw
        case rel => exact ⟨fk + 1, q + 1, by go_num, by go_num, by omega, by omega, HS⟩
        case measure => (simp [intOf] <;> omega)
      case neg =>
        obtain rfl : fk = wl.length := by omega
        have h0 := HS.out
        rw [List.drop_length] at h0
        have CP := Lib.hid h0.pop_no
        clear h0
        go_wp2_with fail
        (go_at_call 13; (with_reducible refine CP.out.mono ?_); rintro e w' ⟨rfl, rfl⟩)
        clear CP hc2
        go_wp2_with fail
        go_roundw
        case rel => exact ⟨wl.length, q + 1, by go_num, by go_num, by omega, by omega, HS⟩
        case measure => (simp [intOf] <;> omega)

/-! ### The row's step -/
set_option maxRecDepth 100000 in
theorem lifted (os : Os) (started : os.Started) (H : Type) (enc : TypeId × Value → H) :
    ReturnsInHanded {} Try.checked os 5 .any (Rows.ringOrderSpec.pre6 enc Try.prog Try.f5 Rows.ringOrderRow.domain false) (Rows.ringOrderSpec.post enc Try.prog Try.f5 false true false false) := by
  refine returnsInHanded_of_change (C := Try.checked) own started (by kernel_rfl) Try.func5
    (ChangeSpec.witness6 (enc := enc) (C := Try.checked) false ⟨#[], #[.int .u8 0, .slice none 0 0, .slice none 0 0], []⟩ 8 (by kernel_rfl) (by kernel_rfl) (by kernel_rfl) (by kernel_rfl)) ?_
  intro W base args ds gs before hval0 hW hcnd _
  have hval : ∀ (j : Nat) t v, Try.f5.params[j]? = some t → args[j]? = some v → Value.okWide Try.prog W .any base t v := hval0
  have hW' := hW
  obtain ⟨p, q, hA0, hV, rfl, hfz, hnd⟩ := hW
  have hA : DataW.TrodAll enc Try.prog W 0 (fun _ => true) true Try.f5.params.toList args.toList ds p := hA0
  rw [Try.params5] at hA hval
  obtain ⟨v0, vs0, d0, ds0, p0, q0, hargs, rfl, rfl, h0, rr0⟩ := trodAll_cons hA
  obtain ⟨v1, vs1, d1, ds1, p1, q1, rfl, rfl, rfl, h1, rr1⟩ := trodAll_cons rr0
  obtain ⟨v2, vs2, d2, ds2, p2, q2, rfl, rfl, rfl, h2, rr2⟩ := trodAll_cons rr1
  obtain ⟨rfl, rfl, rfl⟩ := trodAll_nil rr2
  obtain rfl : args = #[v0, v1, v2] := by cases args; simp_all
  obtain ⟨rfl, rfl⟩ := trodVars_none hV
  obtain ⟨a0, rfl, rfl, rfl, w0⟩ := open_int Try.underlying5 (hval 0 5 v0 rfl rfl) h0
  obtain ⟨a1, len1, cap1, rfl⟩ := okWide_slice Try.underlying40 (hval 1 40 v1 rfl rfl)
  have k1 := h1
  have lt1 : ∀ x ∈ p1, x.block < W.heap.size := by obtain ⟨m, hm⟩ := k1; exact DataW.trod_lt m _ _ _ hm
  obtain ⟨l1, rfl, r1, w1⟩ : ∃ L : List Int, L.length = len1 ∧ Row .u32 W a1 L ∧ (∀ n ∈ L, (Lit.int .u32 n).wf = true) := by
    obtain ⟨fuel, hf⟩ := h1
    rcases open_ints Try.underlying40 Try.underlying23 (by kernel_rfl) hf with ⟨hcs, _⟩ | ⟨x, l, c, zs, hcs, _, hl, hm, hz, _, hcell, hwz⟩
    · simp [Value.cells] at hcs
      obtain ⟨rfl, rfl, rfl⟩ := hcs
      exact ⟨[], rfl, .inl rfl, fun _ h => by cases h⟩
    · simp [Value.cells] at hcs
      obtain ⟨rfl, rfl, rfl⟩ := hcs
      obtain ⟨L, e1, e2, _, e3, _⟩ := row_of (k := .u32) (w := W) (a := some x) (len := len1) (cap := cap1) (zs := zs) (.inr ⟨_, rfl, hl, hm, by simpa using hz, hcell, hwz⟩)
      exact ⟨L, e1, e2, e3⟩
  obtain ⟨a2, len2, cap2, rfl⟩ := okWide_slice Try.underlying41 (hval 2 41 v2 rfl rfl)
  have k2 := h2
  have lt2 : ∀ x ∈ p2, x.block < W.heap.size := by obtain ⟨m, hm⟩ := k2; exact DataW.trod_lt m _ _ _ hm
  obtain ⟨l2, rfl, r2, w2⟩ : ∃ L : List Int, L.length = len2 ∧ Row .u8 W a2 L ∧ (∀ n ∈ L, (Lit.int .u8 n).wf = true) := by
    obtain ⟨fuel, hf⟩ := h2
    rcases open_ints Try.underlying41 Try.underlying5 (by kernel_rfl) hf with ⟨hcs, _⟩ | ⟨x, l, c, zs, hcs, _, hl, hm, hz, _, hcell, hwz⟩
    · simp [Value.cells] at hcs
      obtain ⟨rfl, rfl, rfl⟩ := hcs
      exact ⟨[], rfl, .inl rfl, fun _ h => by cases h⟩
    · simp [Value.cells] at hcs
      obtain ⟨rfl, rfl, rfl⟩ := hcs
      obtain ⟨L, e1, e2, _, e3, _⟩ := row_of (k := .u8) (w := W) (a := some x) (len := len2) (cap := cap2) (zs := zs) (.inr ⟨_, rfl, hl, hm, by simpa using hz, hcell, hwz⟩)
      exact ⟨L, e1, e2, e3⟩
  clear hA0 hval0
  refine (walk a0 a1 cap1 l1 a2 cap2 l2 W w0 r1 w1 r2 w2).mono fun e W' ⟨he, bel⟩ => ?_
  subst he
  exact ⟨_, rfl, _, _, _, [], _, [], hW', trodAll_mk1 (shut_bool Try.underlying4 _), (trodAll_cons_mk (shut_int Try.underlying5 w0) (trodAll_cons_mk (Below.trod laidOut (by kernel_rfl) (of_decide_eq_true (by kernel_rfl)) k1 bel lt1) (trodAll_cons_mk (Below.trod laidOut (by kernel_rfl) (of_decide_eq_true (by kernel_rfl)) k2 bel lt2) trodAll_mk0))), rfl, bel.frame _, fun h => by cases h⟩

theorem over : Rows.ringOrderRow.holds Try.pinned (OpenSpec.ofChange Rows.ringOrderSpec) :=
  OpenClaim.holds_of_wide 5 Try.f5 rfl rfl rfl rfl rfl rfl rfl ⟨rfl, rfl, rfl, rfl, rfl⟩ rfl rfl rfl rfl rfl (by kernel_rfl) Try.func5 (by kernel_rfl)
    (of_decide_eq_true (by kernel_rfl)) (by unfold Func.isWrapper; first | (rw [if_pos (by decide +kernel)]; kernel_rfl) | (rw [if_neg (by decide +kernel)]; exact ⟨rfl, rfl⟩))
    (fun os started H enc _ => lifted os started H enc)

/-- The statement. -/
theorem proved : Rows.RingOrderSaid := over
#print axioms proved
end Go.Proofs.Ytmdbpnpbohmofaa.ringOrder

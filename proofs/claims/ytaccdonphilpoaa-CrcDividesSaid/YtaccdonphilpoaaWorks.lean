/- Walked: works returns true and turns nothing that was there. Conditions: none. -/
import Derived.Test.YtaccdonphilpoaaWalkC
namespace Go.Proofs.Ytaccdonphilpoaa
open Go.RowKit M
set_option linter.unusedVariables false
set_option linter.unusedSimpArgs false

/-! Written by wip/tools/crcworks.py: works' one region, whose order is open: order by order, with two places where all ways meet again. -/
set_option maxHeartbeats 4000000 in
theorem works_any (w : World) :
    Calls Try.prog 9 #[] w fun e w' => e = .returned (.bool true) ∧ Below w.heap.size w w' := by
  have hmk : ∀ w, (Instr.makeSlice 22 (.int .i64 12) (.int .i64 12)).run Try.prog w = .ok (.slice (some ⟨w.heap.size, 0, none⟩) 12 12) (w.alloc (.cells #[.int .u8 0, .int .u8 0, .int .u8 0, .int .u8 0, .int .u8 0, .int .u8 0, .int .u8 0, .int .u8 0, .int .u8 0, .int .u8 0, .int .u8 0, .int .u8 0] 5)) := fun _ => by kernel_rfl
  have hfs : ∀ (w : World) b o, (frz w b o).heap.size = w.heap.size := fun w b o => by simp [frz]
  obtain ⟨z, hz⟩ : ∃ z, sumOf 0 zeros12 = z := ⟨_, rfl⟩
  obtain ⟨y, hy⟩ : ∃ y, sumOf 0 [49, 50, 51, 52] = y := ⟨_, rfl⟩
  have hyr : 0 ≤ y ∧ y ≤ 4294967295 := by rw [← hy]; exact sumOf_range _ _
  have HD : Hid (sumOf y [53, 54, 55, 56, 57] = 3808858755) := by rw [Hid, ← hy]; exact sum_digits
  have HZ := Lib.hid hz
  have HY := Lib.hid hy
  clear hz hy
  go_enter Try.func9, Try.ntmps9
  go_wp2
  refine wp_region_any (by kernel_rfl) ?_
  change wpAny _ _ _ _ _ _ _ (World.drew _)
  refine merge (fun a w1 => ∃ x1 x3, a = ⟨#[.bool false, x1, .int .u32 z, x3, .int .u32 z, .bool true, .bool true, undef, undef, undef, undef, undef, undef, undef, undef, undef, undef, undef, undef], []⟩ ∧ Below w.heap.size w w1) 13 #[true, true, true, true, true, true, false, false, false, false, false, false, false, false, false, false, false, false, false] ?_ (fun HM => ?_)
  · rintro _ w1 ⟨x1, x3, rfl, HB⟩
    refine merge (fun a w2 => ∃ x7 x8 x10 x11, a = ⟨#[.bool false, x1, .int .u32 z, x3, .int .u32 z, .bool true, .bool true, x7, x8, .int .u32 y, x10, x11, .int .u32 3808858755, undef, undef, undef, undef, undef, undef], []⟩ ∧ Below w.heap.size w w2) 7 #[true, true, true, true, true, true, true, true, true, true, true, true, false, false, false, false, false, false, false] ?_ (fun HM => ?_)
    · clear HB
      rintro _ w2 ⟨x7, x8, x10, x11, rfl, HB⟩
      refine wpAny_ready (rs := [12]) (by kernel_rfl) (by simp) ?_
      refine AllReady.cons rfl (fun K hK => ?_) AllReady.nil
      · go_simp
        refine hK _ _ ?_; clear hK K
        refine wpAny_ready (rs := [13]) (by kernel_rfl) (by simp) ?_
        refine AllReady.cons rfl (fun K hK => ?_) AllReady.nil
        · go_simp
          refine hK _ _ ?_; clear hK K
          refine wpAny_ready (rs := [14]) (by kernel_rfl) (by simp) ?_
          refine AllReady.cons rfl (fun K hK => ?_) AllReady.nil
          · go_simp
            refine hK _ _ ?_; clear hK K
            refine wpAny_ready (rs := [15]) (by kernel_rfl) (by simp) ?_
            refine AllReady.cons rfl (fun K hK => ?_) AllReady.nil
            · go_simp
              (go_at_call 13; (with_reducible refine (sum_lit [] 0 0 0 rfl sum_nil _ _ (by decide) (row_nil _ _ _) (.of_all (by decide))).mono ?_); rintro e w' ⟨rfl, rfl⟩)
              refine hK _ _ ?_; clear hK K
              refine wpAny_ready (rs := [16]) (by kernel_rfl) (by simp) ?_
              refine AllReady.cons rfl (fun K hK => ?_) AllReady.nil
              · go_simp
                refine hK _ _ ?_; clear hK K
                refine wpAny_ready (rs := [17]) (by kernel_rfl) (by simp) ?_
                refine AllReady.cons rfl (fun K hK => ?_) AllReady.nil
                · go_simp
                  refine hK _ _ ?_; clear hK K
                  refine wpAny_ready (rs := [18]) (by kernel_rfl) (by simp) ?_
                  refine AllReady.cons rfl (fun K hK => ?_) AllReady.nil
                  · go_simp
                    refine hK _ _ ?_; clear hK K
                    (refine wpAny_done (by kernel_rfl) ?_ _; go_wp2; go_ret; exact ⟨rfl, HB⟩)
    refine wpAny_ready (rs := [6, 9]) (by kernel_rfl) (by simp) ?_
    refine AllReady.cons rfl (fun K hK => ?_) (AllReady.cons rfl (fun K hK => ?_) AllReady.nil)
    · go_simp
      refine hK _ _ ?_; clear hK K
      refine wpAny_ready (rs := [7, 9]) (by kernel_rfl) (by simp) ?_
      refine AllReady.cons rfl (fun K hK => ?_) (AllReady.cons rfl (fun K hK => ?_) AllReady.nil)
      · go_simp
        (rw [run_mark _ _ 4 4 c1234 (by simp only [heapAl, heapDr, heapFr, Array.getElem?_setIfInBounds, Array.getElem?_push, Array.size_push, Array.size_setIfInBounds, if_true]; (simp [c1234] <;> omega))]; go_simp)
        refine hK _ _ ?_; clear hK K
        refine wpAny_ready (rs := [8, 9]) (by kernel_rfl) (by simp) ?_
        refine AllReady.cons rfl (fun K hK => ?_) (AllReady.cons rfl (fun K hK => ?_) AllReady.nil)
        · go_simp
          (go_at_call 13; (with_reducible refine (sum_lit [49, 50, 51, 52] 4 4 y rfl HY.out _ _ (by decide) ?_ (.of_all (by decide))).mono ?_); (· refine Row.of_block (T := 5) (fr := (4, 5)) ?_; simp only [heapAl, heapDr, heapFr, Array.getElem?_setIfInBounds, Array.getElem?_push, Array.size_push, Array.size_setIfInBounds, if_true]; (simp [c1234] <;> omega)); rintro e w' ⟨rfl, rfl⟩)
          refine hK _ _ ?_; clear hK K
          refine wpAny_ready (rs := [9]) (by kernel_rfl) (by simp) ?_
          refine AllReady.cons rfl (fun K hK => ?_) AllReady.nil
          · go_simp
            refine hK _ _ ?_; clear hK K
            refine wpAny_ready (rs := [10]) (by kernel_rfl) (by simp) ?_
            refine AllReady.cons rfl (fun K hK => ?_) AllReady.nil
            · go_simp
              (rw [run_mark _ _ 5 5 c56789 (by simp only [heapAl, heapDr, heapFr, Array.getElem?_setIfInBounds, Array.getElem?_push, Array.size_push, Array.size_setIfInBounds, if_true]; (simp [c56789] <;> omega))]; go_simp)
              refine hK _ _ ?_; clear hK K
              refine wpAny_ready (rs := [11]) (by kernel_rfl) (by simp) ?_
              refine AllReady.cons rfl (fun K hK => ?_) AllReady.nil
              · go_simp
                (go_at_call 11; (with_reducible refine (ext_lit y [53, 54, 55, 56, 57] 5 5 _ rfl HD.out _ _ (by decide) ?_ (.of_all (by decide)) hyr).mono ?_); (· refine Row.of_block (T := 5) (fr := (5, 6)) ?_; simp only [heapAl, heapDr, heapFr, Array.getElem?_setIfInBounds, Array.getElem?_push, Array.size_push, Array.size_setIfInBounds, if_true]; (simp [c56789] <;> omega)); rintro e w' ⟨rfl, rfl⟩)
                refine hK _ _ ?_; clear hK K
                exact wpAny_listed (by kernel_rfl) (HM.out _ _ ⟨_, _, _, _, rfl, by repeat (first | exact HB | (refine below_frz ?_ (by have := HB.size; (try simp only [heapAl, heapDr, heapFr, Array.size_push, Array.size_setIfInBounds]); omega) _) | refine Below.drew ?_ | (refine Below.alloc ?_ (by have := HB.size; (try simp only [heapAl, heapDr, heapFr, Array.size_push, Array.size_setIfInBounds]); omega) _))⟩)
        · go_simp
          refine hK _ _ ?_; clear hK K
          refine wpAny_ready (rs := [8, 10]) (by kernel_rfl) (by simp) ?_
          refine AllReady.cons rfl (fun K hK => ?_) (AllReady.cons rfl (fun K hK => ?_) AllReady.nil)
          · go_simp
            (go_at_call 13; (with_reducible refine (sum_lit [49, 50, 51, 52] 4 4 y rfl HY.out _ _ (by decide) ?_ (.of_all (by decide))).mono ?_); (· refine Row.of_block (T := 5) (fr := (4, 5)) ?_; simp only [heapAl, heapDr, heapFr, Array.getElem?_setIfInBounds, Array.getElem?_push, Array.size_push, Array.size_setIfInBounds, if_true]; (simp [c1234] <;> omega)); rintro e w' ⟨rfl, rfl⟩)
            refine hK _ _ ?_; clear hK K
            refine wpAny_ready (rs := [10]) (by kernel_rfl) (by simp) ?_
            refine AllReady.cons rfl (fun K hK => ?_) AllReady.nil
            · go_simp
              (rw [run_mark _ _ 5 5 c56789 (by simp only [heapAl, heapDr, heapFr, Array.getElem?_setIfInBounds, Array.getElem?_push, Array.size_push, Array.size_setIfInBounds, if_true]; (simp [c56789] <;> omega))]; go_simp)
              refine hK _ _ ?_; clear hK K
              refine wpAny_ready (rs := [11]) (by kernel_rfl) (by simp) ?_
              refine AllReady.cons rfl (fun K hK => ?_) AllReady.nil
              · go_simp
                (go_at_call 11; (with_reducible refine (ext_lit y [53, 54, 55, 56, 57] 5 5 _ rfl HD.out _ _ (by decide) ?_ (.of_all (by decide)) hyr).mono ?_); (· refine Row.of_block (T := 5) (fr := (5, 6)) ?_; simp only [heapAl, heapDr, heapFr, Array.getElem?_setIfInBounds, Array.getElem?_push, Array.size_push, Array.size_setIfInBounds, if_true]; (simp [c56789] <;> omega)); rintro e w' ⟨rfl, rfl⟩)
                refine hK _ _ ?_; clear hK K
                exact wpAny_listed (by kernel_rfl) (HM.out _ _ ⟨_, _, _, _, rfl, by repeat (first | exact HB | (refine below_frz ?_ (by have := HB.size; (try simp only [heapAl, heapDr, heapFr, Array.size_push, Array.size_setIfInBounds]); omega) _) | refine Below.drew ?_ | (refine Below.alloc ?_ (by have := HB.size; (try simp only [heapAl, heapDr, heapFr, Array.size_push, Array.size_setIfInBounds]); omega) _))⟩)
          · go_simp
            (rw [run_mark _ _ 5 5 c56789 (by simp only [heapAl, heapDr, heapFr, Array.getElem?_setIfInBounds, Array.getElem?_push, Array.size_push, Array.size_setIfInBounds, if_true]; (simp [c56789] <;> omega))]; go_simp)
            refine hK _ _ ?_; clear hK K
            refine wpAny_ready (rs := [8]) (by kernel_rfl) (by simp) ?_
            refine AllReady.cons rfl (fun K hK => ?_) AllReady.nil
            · go_simp
              (go_at_call 13; (with_reducible refine (sum_lit [49, 50, 51, 52] 4 4 y rfl HY.out _ _ (by decide) ?_ (.of_all (by decide))).mono ?_); (· refine Row.of_block (T := 5) (fr := (4, 5)) ?_; simp only [heapAl, heapDr, heapFr, Array.getElem?_setIfInBounds, Array.getElem?_push, Array.size_push, Array.size_setIfInBounds, if_true]; (simp [c1234] <;> omega)); rintro e w' ⟨rfl, rfl⟩)
              refine hK _ _ ?_; clear hK K
              refine wpAny_ready (rs := [11]) (by kernel_rfl) (by simp) ?_
              refine AllReady.cons rfl (fun K hK => ?_) AllReady.nil
              · go_simp
                (go_at_call 11; (with_reducible refine (ext_lit y [53, 54, 55, 56, 57] 5 5 _ rfl HD.out _ _ (by decide) ?_ (.of_all (by decide)) hyr).mono ?_); (· refine Row.of_block (T := 5) (fr := (5, 6)) ?_; simp only [heapAl, heapDr, heapFr, Array.getElem?_setIfInBounds, Array.getElem?_push, Array.size_push, Array.size_setIfInBounds, if_true]; (simp [c56789] <;> omega)); rintro e w' ⟨rfl, rfl⟩)
                refine hK _ _ ?_; clear hK K
                exact wpAny_listed (by kernel_rfl) (HM.out _ _ ⟨_, _, _, _, rfl, by repeat (first | exact HB | (refine below_frz ?_ (by have := HB.size; (try simp only [heapAl, heapDr, heapFr, Array.size_push, Array.size_setIfInBounds]); omega) _) | refine Below.drew ?_ | (refine Below.alloc ?_ (by have := HB.size; (try simp only [heapAl, heapDr, heapFr, Array.size_push, Array.size_setIfInBounds]); omega) _))⟩)
      · go_simp
        refine hK _ _ ?_; clear hK K
        refine wpAny_ready (rs := [7, 10]) (by kernel_rfl) (by simp) ?_
        refine AllReady.cons rfl (fun K hK => ?_) (AllReady.cons rfl (fun K hK => ?_) AllReady.nil)
        · go_simp
          (rw [run_mark _ _ 4 4 c1234 (by simp only [heapAl, heapDr, heapFr, Array.getElem?_setIfInBounds, Array.getElem?_push, Array.size_push, Array.size_setIfInBounds, if_true]; (simp [c1234] <;> omega))]; go_simp)
          refine hK _ _ ?_; clear hK K
          refine wpAny_ready (rs := [8, 10]) (by kernel_rfl) (by simp) ?_
          refine AllReady.cons rfl (fun K hK => ?_) (AllReady.cons rfl (fun K hK => ?_) AllReady.nil)
          · go_simp
            (go_at_call 13; (with_reducible refine (sum_lit [49, 50, 51, 52] 4 4 y rfl HY.out _ _ (by decide) ?_ (.of_all (by decide))).mono ?_); (· refine Row.of_block (T := 5) (fr := (4, 5)) ?_; simp only [heapAl, heapDr, heapFr, Array.getElem?_setIfInBounds, Array.getElem?_push, Array.size_push, Array.size_setIfInBounds, if_true]; (simp [c1234] <;> omega)); rintro e w' ⟨rfl, rfl⟩)
            refine hK _ _ ?_; clear hK K
            refine wpAny_ready (rs := [10]) (by kernel_rfl) (by simp) ?_
            refine AllReady.cons rfl (fun K hK => ?_) AllReady.nil
            · go_simp
              (rw [run_mark _ _ 5 5 c56789 (by simp only [heapAl, heapDr, heapFr, Array.getElem?_setIfInBounds, Array.getElem?_push, Array.size_push, Array.size_setIfInBounds, if_true]; (simp [c56789] <;> omega))]; go_simp)
              refine hK _ _ ?_; clear hK K
              refine wpAny_ready (rs := [11]) (by kernel_rfl) (by simp) ?_
              refine AllReady.cons rfl (fun K hK => ?_) AllReady.nil
              · go_simp
                (go_at_call 11; (with_reducible refine (ext_lit y [53, 54, 55, 56, 57] 5 5 _ rfl HD.out _ _ (by decide) ?_ (.of_all (by decide)) hyr).mono ?_); (· refine Row.of_block (T := 5) (fr := (5, 6)) ?_; simp only [heapAl, heapDr, heapFr, Array.getElem?_setIfInBounds, Array.getElem?_push, Array.size_push, Array.size_setIfInBounds, if_true]; (simp [c56789] <;> omega)); rintro e w' ⟨rfl, rfl⟩)
                refine hK _ _ ?_; clear hK K
                exact wpAny_listed (by kernel_rfl) (HM.out _ _ ⟨_, _, _, _, rfl, by repeat (first | exact HB | (refine below_frz ?_ (by have := HB.size; (try simp only [heapAl, heapDr, heapFr, Array.size_push, Array.size_setIfInBounds]); omega) _) | refine Below.drew ?_ | (refine Below.alloc ?_ (by have := HB.size; (try simp only [heapAl, heapDr, heapFr, Array.size_push, Array.size_setIfInBounds]); omega) _))⟩)
          · go_simp
            (rw [run_mark _ _ 5 5 c56789 (by simp only [heapAl, heapDr, heapFr, Array.getElem?_setIfInBounds, Array.getElem?_push, Array.size_push, Array.size_setIfInBounds, if_true]; (simp [c56789] <;> omega))]; go_simp)
            refine hK _ _ ?_; clear hK K
            refine wpAny_ready (rs := [8]) (by kernel_rfl) (by simp) ?_
            refine AllReady.cons rfl (fun K hK => ?_) AllReady.nil
            · go_simp
              (go_at_call 13; (with_reducible refine (sum_lit [49, 50, 51, 52] 4 4 y rfl HY.out _ _ (by decide) ?_ (.of_all (by decide))).mono ?_); (· refine Row.of_block (T := 5) (fr := (4, 5)) ?_; simp only [heapAl, heapDr, heapFr, Array.getElem?_setIfInBounds, Array.getElem?_push, Array.size_push, Array.size_setIfInBounds, if_true]; (simp [c1234] <;> omega)); rintro e w' ⟨rfl, rfl⟩)
              refine hK _ _ ?_; clear hK K
              refine wpAny_ready (rs := [11]) (by kernel_rfl) (by simp) ?_
              refine AllReady.cons rfl (fun K hK => ?_) AllReady.nil
              · go_simp
                (go_at_call 11; (with_reducible refine (ext_lit y [53, 54, 55, 56, 57] 5 5 _ rfl HD.out _ _ (by decide) ?_ (.of_all (by decide)) hyr).mono ?_); (· refine Row.of_block (T := 5) (fr := (5, 6)) ?_; simp only [heapAl, heapDr, heapFr, Array.getElem?_setIfInBounds, Array.getElem?_push, Array.size_push, Array.size_setIfInBounds, if_true]; (simp [c56789] <;> omega)); rintro e w' ⟨rfl, rfl⟩)
                refine hK _ _ ?_; clear hK K
                exact wpAny_listed (by kernel_rfl) (HM.out _ _ ⟨_, _, _, _, rfl, by repeat (first | exact HB | (refine below_frz ?_ (by have := HB.size; (try simp only [heapAl, heapDr, heapFr, Array.size_push, Array.size_setIfInBounds]); omega) _) | refine Below.drew ?_ | (refine Below.alloc ?_ (by have := HB.size; (try simp only [heapAl, heapDr, heapFr, Array.size_push, Array.size_setIfInBounds]); omega) _))⟩)
        · go_simp
          (rw [run_mark _ _ 5 5 c56789 (by simp only [heapAl, heapDr, heapFr, Array.getElem?_setIfInBounds, Array.getElem?_push, Array.size_push, Array.size_setIfInBounds, if_true]; (simp [c56789] <;> omega))]; go_simp)
          refine hK _ _ ?_; clear hK K
          refine wpAny_ready (rs := [7]) (by kernel_rfl) (by simp) ?_
          refine AllReady.cons rfl (fun K hK => ?_) AllReady.nil
          · go_simp
            (rw [run_mark _ _ 4 4 c1234 (by simp only [heapAl, heapDr, heapFr, Array.getElem?_setIfInBounds, Array.getElem?_push, Array.size_push, Array.size_setIfInBounds, if_true]; (simp [c1234] <;> omega))]; go_simp)
            refine hK _ _ ?_; clear hK K
            refine wpAny_ready (rs := [8]) (by kernel_rfl) (by simp) ?_
            refine AllReady.cons rfl (fun K hK => ?_) AllReady.nil
            · go_simp
              (go_at_call 13; (with_reducible refine (sum_lit [49, 50, 51, 52] 4 4 y rfl HY.out _ _ (by decide) ?_ (.of_all (by decide))).mono ?_); (· refine Row.of_block (T := 5) (fr := (4, 5)) ?_; simp only [heapAl, heapDr, heapFr, Array.getElem?_setIfInBounds, Array.getElem?_push, Array.size_push, Array.size_setIfInBounds, if_true]; (simp [c1234] <;> omega)); rintro e w' ⟨rfl, rfl⟩)
              refine hK _ _ ?_; clear hK K
              refine wpAny_ready (rs := [11]) (by kernel_rfl) (by simp) ?_
              refine AllReady.cons rfl (fun K hK => ?_) AllReady.nil
              · go_simp
                (go_at_call 11; (with_reducible refine (ext_lit y [53, 54, 55, 56, 57] 5 5 _ rfl HD.out _ _ (by decide) ?_ (.of_all (by decide)) hyr).mono ?_); (· refine Row.of_block (T := 5) (fr := (5, 6)) ?_; simp only [heapAl, heapDr, heapFr, Array.getElem?_setIfInBounds, Array.getElem?_push, Array.size_push, Array.size_setIfInBounds, if_true]; (simp [c56789] <;> omega)); rintro e w' ⟨rfl, rfl⟩)
                refine hK _ _ ?_; clear hK K
                exact wpAny_listed (by kernel_rfl) (HM.out _ _ ⟨_, _, _, _, rfl, by repeat (first | exact HB | (refine below_frz ?_ (by have := HB.size; (try simp only [heapAl, heapDr, heapFr, Array.size_push, Array.size_setIfInBounds]); omega) _) | refine Below.drew ?_ | (refine Below.alloc ?_ (by have := HB.size; (try simp only [heapAl, heapDr, heapFr, Array.size_push, Array.size_setIfInBounds]); omega) _))⟩)
    · go_simp
      refine hK _ _ ?_; clear hK K
      refine wpAny_ready (rs := [6, 10]) (by kernel_rfl) (by simp) ?_
      refine AllReady.cons rfl (fun K hK => ?_) (AllReady.cons rfl (fun K hK => ?_) AllReady.nil)
      · go_simp
        refine hK _ _ ?_; clear hK K
        refine wpAny_ready (rs := [7, 10]) (by kernel_rfl) (by simp) ?_
        refine AllReady.cons rfl (fun K hK => ?_) (AllReady.cons rfl (fun K hK => ?_) AllReady.nil)
        · go_simp
          (rw [run_mark _ _ 4 4 c1234 (by simp only [heapAl, heapDr, heapFr, Array.getElem?_setIfInBounds, Array.getElem?_push, Array.size_push, Array.size_setIfInBounds, if_true]; (simp [c1234] <;> omega))]; go_simp)
          refine hK _ _ ?_; clear hK K
          refine wpAny_ready (rs := [8, 10]) (by kernel_rfl) (by simp) ?_
          refine AllReady.cons rfl (fun K hK => ?_) (AllReady.cons rfl (fun K hK => ?_) AllReady.nil)
          · go_simp
            (go_at_call 13; (with_reducible refine (sum_lit [49, 50, 51, 52] 4 4 y rfl HY.out _ _ (by decide) ?_ (.of_all (by decide))).mono ?_); (· refine Row.of_block (T := 5) (fr := (4, 5)) ?_; simp only [heapAl, heapDr, heapFr, Array.getElem?_setIfInBounds, Array.getElem?_push, Array.size_push, Array.size_setIfInBounds, if_true]; (simp [c1234] <;> omega)); rintro e w' ⟨rfl, rfl⟩)
            refine hK _ _ ?_; clear hK K
            refine wpAny_ready (rs := [10]) (by kernel_rfl) (by simp) ?_
            refine AllReady.cons rfl (fun K hK => ?_) AllReady.nil
            · go_simp
              (rw [run_mark _ _ 5 5 c56789 (by simp only [heapAl, heapDr, heapFr, Array.getElem?_setIfInBounds, Array.getElem?_push, Array.size_push, Array.size_setIfInBounds, if_true]; (simp [c56789] <;> omega))]; go_simp)
              refine hK _ _ ?_; clear hK K
              refine wpAny_ready (rs := [11]) (by kernel_rfl) (by simp) ?_
              refine AllReady.cons rfl (fun K hK => ?_) AllReady.nil
              · go_simp
                (go_at_call 11; (with_reducible refine (ext_lit y [53, 54, 55, 56, 57] 5 5 _ rfl HD.out _ _ (by decide) ?_ (.of_all (by decide)) hyr).mono ?_); (· refine Row.of_block (T := 5) (fr := (5, 6)) ?_; simp only [heapAl, heapDr, heapFr, Array.getElem?_setIfInBounds, Array.getElem?_push, Array.size_push, Array.size_setIfInBounds, if_true]; (simp [c56789] <;> omega)); rintro e w' ⟨rfl, rfl⟩)
                refine hK _ _ ?_; clear hK K
                exact wpAny_listed (by kernel_rfl) (HM.out _ _ ⟨_, _, _, _, rfl, by repeat (first | exact HB | (refine below_frz ?_ (by have := HB.size; (try simp only [heapAl, heapDr, heapFr, Array.size_push, Array.size_setIfInBounds]); omega) _) | refine Below.drew ?_ | (refine Below.alloc ?_ (by have := HB.size; (try simp only [heapAl, heapDr, heapFr, Array.size_push, Array.size_setIfInBounds]); omega) _))⟩)
          · go_simp
            (rw [run_mark _ _ 5 5 c56789 (by simp only [heapAl, heapDr, heapFr, Array.getElem?_setIfInBounds, Array.getElem?_push, Array.size_push, Array.size_setIfInBounds, if_true]; (simp [c56789] <;> omega))]; go_simp)
            refine hK _ _ ?_; clear hK K
            refine wpAny_ready (rs := [8]) (by kernel_rfl) (by simp) ?_
            refine AllReady.cons rfl (fun K hK => ?_) AllReady.nil
            · go_simp
              (go_at_call 13; (with_reducible refine (sum_lit [49, 50, 51, 52] 4 4 y rfl HY.out _ _ (by decide) ?_ (.of_all (by decide))).mono ?_); (· refine Row.of_block (T := 5) (fr := (4, 5)) ?_; simp only [heapAl, heapDr, heapFr, Array.getElem?_setIfInBounds, Array.getElem?_push, Array.size_push, Array.size_setIfInBounds, if_true]; (simp [c1234] <;> omega)); rintro e w' ⟨rfl, rfl⟩)
              refine hK _ _ ?_; clear hK K
              refine wpAny_ready (rs := [11]) (by kernel_rfl) (by simp) ?_
              refine AllReady.cons rfl (fun K hK => ?_) AllReady.nil
              · go_simp
                (go_at_call 11; (with_reducible refine (ext_lit y [53, 54, 55, 56, 57] 5 5 _ rfl HD.out _ _ (by decide) ?_ (.of_all (by decide)) hyr).mono ?_); (· refine Row.of_block (T := 5) (fr := (5, 6)) ?_; simp only [heapAl, heapDr, heapFr, Array.getElem?_setIfInBounds, Array.getElem?_push, Array.size_push, Array.size_setIfInBounds, if_true]; (simp [c56789] <;> omega)); rintro e w' ⟨rfl, rfl⟩)
                refine hK _ _ ?_; clear hK K
                exact wpAny_listed (by kernel_rfl) (HM.out _ _ ⟨_, _, _, _, rfl, by repeat (first | exact HB | (refine below_frz ?_ (by have := HB.size; (try simp only [heapAl, heapDr, heapFr, Array.size_push, Array.size_setIfInBounds]); omega) _) | refine Below.drew ?_ | (refine Below.alloc ?_ (by have := HB.size; (try simp only [heapAl, heapDr, heapFr, Array.size_push, Array.size_setIfInBounds]); omega) _))⟩)
        · go_simp
          (rw [run_mark _ _ 5 5 c56789 (by simp only [heapAl, heapDr, heapFr, Array.getElem?_setIfInBounds, Array.getElem?_push, Array.size_push, Array.size_setIfInBounds, if_true]; (simp [c56789] <;> omega))]; go_simp)
          refine hK _ _ ?_; clear hK K
          refine wpAny_ready (rs := [7]) (by kernel_rfl) (by simp) ?_
          refine AllReady.cons rfl (fun K hK => ?_) AllReady.nil
          · go_simp
            (rw [run_mark _ _ 4 4 c1234 (by simp only [heapAl, heapDr, heapFr, Array.getElem?_setIfInBounds, Array.getElem?_push, Array.size_push, Array.size_setIfInBounds, if_true]; (simp [c1234] <;> omega))]; go_simp)
            refine hK _ _ ?_; clear hK K
            refine wpAny_ready (rs := [8]) (by kernel_rfl) (by simp) ?_
            refine AllReady.cons rfl (fun K hK => ?_) AllReady.nil
            · go_simp
              (go_at_call 13; (with_reducible refine (sum_lit [49, 50, 51, 52] 4 4 y rfl HY.out _ _ (by decide) ?_ (.of_all (by decide))).mono ?_); (· refine Row.of_block (T := 5) (fr := (4, 5)) ?_; simp only [heapAl, heapDr, heapFr, Array.getElem?_setIfInBounds, Array.getElem?_push, Array.size_push, Array.size_setIfInBounds, if_true]; (simp [c1234] <;> omega)); rintro e w' ⟨rfl, rfl⟩)
              refine hK _ _ ?_; clear hK K
              refine wpAny_ready (rs := [11]) (by kernel_rfl) (by simp) ?_
              refine AllReady.cons rfl (fun K hK => ?_) AllReady.nil
              · go_simp
                (go_at_call 11; (with_reducible refine (ext_lit y [53, 54, 55, 56, 57] 5 5 _ rfl HD.out _ _ (by decide) ?_ (.of_all (by decide)) hyr).mono ?_); (· refine Row.of_block (T := 5) (fr := (5, 6)) ?_; simp only [heapAl, heapDr, heapFr, Array.getElem?_setIfInBounds, Array.getElem?_push, Array.size_push, Array.size_setIfInBounds, if_true]; (simp [c56789] <;> omega)); rintro e w' ⟨rfl, rfl⟩)
                refine hK _ _ ?_; clear hK K
                exact wpAny_listed (by kernel_rfl) (HM.out _ _ ⟨_, _, _, _, rfl, by repeat (first | exact HB | (refine below_frz ?_ (by have := HB.size; (try simp only [heapAl, heapDr, heapFr, Array.size_push, Array.size_setIfInBounds]); omega) _) | refine Below.drew ?_ | (refine Below.alloc ?_ (by have := HB.size; (try simp only [heapAl, heapDr, heapFr, Array.size_push, Array.size_setIfInBounds]); omega) _))⟩)
      · go_simp
        (rw [run_mark _ _ 5 5 c56789 (by simp only [heapAl, heapDr, heapFr, Array.getElem?_setIfInBounds, Array.getElem?_push, Array.size_push, Array.size_setIfInBounds, if_true]; (simp [c56789] <;> omega))]; go_simp)
        refine hK _ _ ?_; clear hK K
        refine wpAny_ready (rs := [6]) (by kernel_rfl) (by simp) ?_
        refine AllReady.cons rfl (fun K hK => ?_) AllReady.nil
        · go_simp
          refine hK _ _ ?_; clear hK K
          refine wpAny_ready (rs := [7]) (by kernel_rfl) (by simp) ?_
          refine AllReady.cons rfl (fun K hK => ?_) AllReady.nil
          · go_simp
            (rw [run_mark _ _ 4 4 c1234 (by simp only [heapAl, heapDr, heapFr, Array.getElem?_setIfInBounds, Array.getElem?_push, Array.size_push, Array.size_setIfInBounds, if_true]; (simp [c1234] <;> omega))]; go_simp)
            refine hK _ _ ?_; clear hK K
            refine wpAny_ready (rs := [8]) (by kernel_rfl) (by simp) ?_
            refine AllReady.cons rfl (fun K hK => ?_) AllReady.nil
            · go_simp
              (go_at_call 13; (with_reducible refine (sum_lit [49, 50, 51, 52] 4 4 y rfl HY.out _ _ (by decide) ?_ (.of_all (by decide))).mono ?_); (· refine Row.of_block (T := 5) (fr := (4, 5)) ?_; simp only [heapAl, heapDr, heapFr, Array.getElem?_setIfInBounds, Array.getElem?_push, Array.size_push, Array.size_setIfInBounds, if_true]; (simp [c1234] <;> omega)); rintro e w' ⟨rfl, rfl⟩)
              refine hK _ _ ?_; clear hK K
              refine wpAny_ready (rs := [11]) (by kernel_rfl) (by simp) ?_
              refine AllReady.cons rfl (fun K hK => ?_) AllReady.nil
              · go_simp
                (go_at_call 11; (with_reducible refine (ext_lit y [53, 54, 55, 56, 57] 5 5 _ rfl HD.out _ _ (by decide) ?_ (.of_all (by decide)) hyr).mono ?_); (· refine Row.of_block (T := 5) (fr := (5, 6)) ?_; simp only [heapAl, heapDr, heapFr, Array.getElem?_setIfInBounds, Array.getElem?_push, Array.size_push, Array.size_setIfInBounds, if_true]; (simp [c56789] <;> omega)); rintro e w' ⟨rfl, rfl⟩)
                refine hK _ _ ?_; clear hK K
                exact wpAny_listed (by kernel_rfl) (HM.out _ _ ⟨_, _, _, _, rfl, by repeat (first | exact HB | (refine below_frz ?_ (by have := HB.size; (try simp only [heapAl, heapDr, heapFr, Array.size_push, Array.size_setIfInBounds]); omega) _) | refine Below.drew ?_ | (refine Below.alloc ?_ (by have := HB.size; (try simp only [heapAl, heapDr, heapFr, Array.size_push, Array.size_setIfInBounds]); omega) _))⟩)
  have HB : Below w.heap.size w w := Below.refl _ _
  refine wpAny_ready (rs := [0, 2]) (by kernel_rfl) (by simp) ?_
  refine AllReady.cons rfl (fun K hK => ?_) (AllReady.cons rfl (fun K hK => ?_) AllReady.nil)
  · go_simp
    refine hK _ _ ?_; clear hK K
    refine wpAny_ready (rs := [1, 2]) (by kernel_rfl) (by simp) ?_
    refine AllReady.cons rfl (fun K hK => ?_) (AllReady.cons rfl (fun K hK => ?_) AllReady.nil)
    · go_simp
      (go_at_call 13; (with_reducible refine (sum_lit zeros12 12 12 z rfl HZ.out _ _ (by decide) ?_ (.of_all (by decide))).mono ?_); (· refine Row.of_block (T := 5) (fr := (0, 0)) ?_; simp only [heapAl, heapDr, heapFr, Array.getElem?_setIfInBounds, Array.getElem?_push, Array.size_push, Array.size_setIfInBounds, if_true]; (simp [zeros12] <;> omega)); rintro e w' ⟨rfl, rfl⟩)
      refine hK _ _ ?_; clear hK K
      refine wpAny_ready (rs := [2]) (by kernel_rfl) (by simp) ?_
      refine AllReady.cons rfl (fun K hK => ?_) AllReady.nil
      · go_simp
        refine hK _ _ ?_; clear hK K
        refine wpAny_ready (rs := [3]) (by kernel_rfl) (by simp) ?_
        refine AllReady.cons rfl (fun K hK => ?_) AllReady.nil
        · go_simp
          (go_at_call 18; (with_reducible refine (refSum_lit zeros12 12 12 z rfl HZ.out _ _ (by decide) ?_ (.of_all (by decide))).mono ?_); (· refine Row.of_block (T := 5) (fr := (0, 0)) ?_; simp only [heapAl, heapDr, heapFr, Array.getElem?_setIfInBounds, Array.getElem?_push, Array.size_push, Array.size_setIfInBounds, if_true]; (simp [zeros12] <;> omega)); rintro e w' ⟨rfl, rfl⟩)
          refine hK _ _ ?_; clear hK K
          refine wpAny_ready (rs := [4]) (by kernel_rfl) (by simp) ?_
          refine AllReady.cons rfl (fun K hK => ?_) AllReady.nil
          · go_simp
            refine hK _ _ ?_; clear hK K
            refine wpAny_ready (rs := [5]) (by kernel_rfl) (by simp) ?_
            refine AllReady.cons rfl (fun K hK => ?_) AllReady.nil
            · go_simp
              refine hK _ _ ?_; clear hK K
              exact wpAny_listed (by kernel_rfl) (HM.out _ _ ⟨_, _, rfl, by repeat (first | exact HB | (refine below_frz ?_ (by have := HB.size; (try simp only [heapAl, heapDr, heapFr, Array.size_push, Array.size_setIfInBounds]); omega) _) | refine Below.drew ?_ | (refine Below.alloc ?_ (by have := HB.size; (try simp only [heapAl, heapDr, heapFr, Array.size_push, Array.size_setIfInBounds]); omega) _))⟩)
    · go_simp
      refine hK _ _ ?_; clear hK K
      refine wpAny_ready (rs := [1]) (by kernel_rfl) (by simp) ?_
      refine AllReady.cons rfl (fun K hK => ?_) AllReady.nil
      · go_simp
        (go_at_call 13; (with_reducible refine (sum_lit zeros12 12 12 z rfl HZ.out _ _ (by decide) ?_ (.of_all (by decide))).mono ?_); (· refine Row.of_block (T := 5) (fr := (0, 0)) ?_; simp only [heapAl, heapDr, heapFr, Array.getElem?_setIfInBounds, Array.getElem?_push, Array.size_push, Array.size_setIfInBounds, if_true]; (simp [zeros12] <;> omega)); rintro e w' ⟨rfl, rfl⟩)
        refine hK _ _ ?_; clear hK K
        refine wpAny_ready (rs := [3]) (by kernel_rfl) (by simp) ?_
        refine AllReady.cons rfl (fun K hK => ?_) AllReady.nil
        · go_simp
          (go_at_call 18; (with_reducible refine (refSum_lit zeros12 12 12 z rfl HZ.out _ _ (by decide) ?_ (.of_all (by decide))).mono ?_); (· refine Row.of_block (T := 5) (fr := (0, 0)) ?_; simp only [heapAl, heapDr, heapFr, Array.getElem?_setIfInBounds, Array.getElem?_push, Array.size_push, Array.size_setIfInBounds, if_true]; (simp [zeros12] <;> omega)); rintro e w' ⟨rfl, rfl⟩)
          refine hK _ _ ?_; clear hK K
          refine wpAny_ready (rs := [4]) (by kernel_rfl) (by simp) ?_
          refine AllReady.cons rfl (fun K hK => ?_) AllReady.nil
          · go_simp
            refine hK _ _ ?_; clear hK K
            refine wpAny_ready (rs := [5]) (by kernel_rfl) (by simp) ?_
            refine AllReady.cons rfl (fun K hK => ?_) AllReady.nil
            · go_simp
              refine hK _ _ ?_; clear hK K
              exact wpAny_listed (by kernel_rfl) (HM.out _ _ ⟨_, _, rfl, by repeat (first | exact HB | (refine below_frz ?_ (by have := HB.size; (try simp only [heapAl, heapDr, heapFr, Array.size_push, Array.size_setIfInBounds]); omega) _) | refine Below.drew ?_ | (refine Below.alloc ?_ (by have := HB.size; (try simp only [heapAl, heapDr, heapFr, Array.size_push, Array.size_setIfInBounds]); omega) _))⟩)
  · go_simp
    refine hK _ _ ?_; clear hK K
    refine wpAny_ready (rs := [0]) (by kernel_rfl) (by simp) ?_
    refine AllReady.cons rfl (fun K hK => ?_) AllReady.nil
    · go_simp
      refine hK _ _ ?_; clear hK K
      refine wpAny_ready (rs := [1]) (by kernel_rfl) (by simp) ?_
      refine AllReady.cons rfl (fun K hK => ?_) AllReady.nil
      · go_simp
        (go_at_call 13; (with_reducible refine (sum_lit zeros12 12 12 z rfl HZ.out _ _ (by decide) ?_ (.of_all (by decide))).mono ?_); (· refine Row.of_block (T := 5) (fr := (0, 0)) ?_; simp only [heapAl, heapDr, heapFr, Array.getElem?_setIfInBounds, Array.getElem?_push, Array.size_push, Array.size_setIfInBounds, if_true]; (simp [zeros12] <;> omega)); rintro e w' ⟨rfl, rfl⟩)
        refine hK _ _ ?_; clear hK K
        refine wpAny_ready (rs := [3]) (by kernel_rfl) (by simp) ?_
        refine AllReady.cons rfl (fun K hK => ?_) AllReady.nil
        · go_simp
          (go_at_call 18; (with_reducible refine (refSum_lit zeros12 12 12 z rfl HZ.out _ _ (by decide) ?_ (.of_all (by decide))).mono ?_); (· refine Row.of_block (T := 5) (fr := (0, 0)) ?_; simp only [heapAl, heapDr, heapFr, Array.getElem?_setIfInBounds, Array.getElem?_push, Array.size_push, Array.size_setIfInBounds, if_true]; (simp [zeros12] <;> omega)); rintro e w' ⟨rfl, rfl⟩)
          refine hK _ _ ?_; clear hK K
          refine wpAny_ready (rs := [4]) (by kernel_rfl) (by simp) ?_
          refine AllReady.cons rfl (fun K hK => ?_) AllReady.nil
          · go_simp
            refine hK _ _ ?_; clear hK K
            refine wpAny_ready (rs := [5]) (by kernel_rfl) (by simp) ?_
            refine AllReady.cons rfl (fun K hK => ?_) AllReady.nil
            · go_simp
              refine hK _ _ ?_; clear hK K
              exact wpAny_listed (by kernel_rfl) (HM.out _ _ ⟨_, _, rfl, by repeat (first | exact HB | (refine below_frz ?_ (by have := HB.size; (try simp only [heapAl, heapDr, heapFr, Array.size_push, Array.size_setIfInBounds]); omega) _) | refine Below.drew ?_ | (refine Below.alloc ?_ (by have := HB.size; (try simp only [heapAl, heapDr, heapFr, Array.size_push, Array.size_setIfInBounds]); omega) _))⟩)
end Go.Proofs.Ytaccdonphilpoaa

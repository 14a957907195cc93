/- lives (function 10) answers true. -/
import Derived.Test.YtokphbpgblhakaaTq
namespace Go.Proofs.Ytokphbpgblhakaa
open Go.RowKit

theorem LT_ok : okTree LT 4 := by
  refine ⟨by decide, by decide, rfl, rfl, fun i h1 h4 => ?_⟩
  match i, h1, h4 with
  | 1, _, _ => exact ⟨by decide, by decide, by decide, by unfold wrap64; decide, by decide, fun k h1 h2 => by omega⟩
  | 2, _, _ =>
    refine ⟨by decide, by decide, by decide, by unfold wrap64; decide, by decide, fun k h1 h2 => ?_⟩
    obtain rfl : k = 1 := by omega
    decide
  | 3, _, _ =>
    refine ⟨by decide, by decide, by decide, by unfold wrap64; decide, by decide, fun k h1 h2 => ?_⟩
    rcases (by omega : k = 1 ∨ k = 2) with rfl | rfl <;> decide

def rawCells : Array Value := #[.int .i64 (-1), .int .i64 3, .int .i64 (-1), .int .i64 3, .int .i64 0, .int .i64 4, .int .i64 1, .int .i64 4, .int .i64 1, .int .i64 5]
theorem rawAt_new (w : World) : RawAt (w.alloc (.cells rawCells 54)) w.heap.size := fun i hi => by
  have h := World.alloc_heap_new w (.cells rawCells 54)
  refine ⟨(cell_of_row _ _ (i * 2) _ _ _ h).trans ?_, (cell_of_row _ _ (i * 2 + 1) _ _ _ h).trans ?_⟩ <;>
    match i, hi with
    | 0, _ => rfl
    | 1, _ => rfl
    | 2, _ => rfl
    | 3, _ => rfl
    | 4, _ => rfl

def wantCells : Array Value := #[.int .i64 (-1), .int .i64 7, .int .i64 0, .int .i64 0, .int .i64 3, .int .i64 1, .int .i64 1, .int .i64 4, .int .i64 2, .int .i64 1, .int .i64 5, .int .i64 2]
theorem wantAt_new (w : World) : TreeAt (w.alloc (.cells wantCells 43)) (some ⟨w.heap.size, 0, none⟩) 4 LT := fun _ => by
  have h := World.alloc_heap_new w (.cells wantCells 43)
  refine ⟨_, _, rfl, fun i hi => ?_⟩
  simp only [Nat.zero_add]
  refine ⟨(cell_of_row _ _ (i * 3) _ _ _ h).trans ?_, (cell_of_row _ _ (i * 3 + 1) _ _ _ h).trans ?_, (cell_of_row _ _ (i * 3 + 2) _ _ _ h).trans ?_⟩ <;>
    match i, hi with
    | 0, _ => rfl
    | 1, _ => rfl
    | 2, _ => rfl
    | 3, _ => rfl

set_option maxRecDepth 100000 in
set_option maxHeartbeats 1000000 in
theorem lives_yes (W : World) : Calls Try.prog 10 #[] W fun e w' => e = .returned (.bool true) ∧ Chg NoB W w' := by
  have hcl := clean_live W.heap.size (W.alloc (.cells rawCells 54)) (rawAt_new W)
  unfold rawCells at hcl
  have Hcl := Lib.hid hcl
  clear hcl
  go_enter Try.func10, Try.ntmps10
  go_wp2_with fail
  refine Hcl.out.mono ?_
  rintro e w1 ⟨g, cap, rfl, hrow, hc1⟩
  have hA : TreeAt w1 (some ⟨g, 0, none⟩) 4 LT := treeAt_of_row (xs := []) (by rw [List.append_nil]; exact hrow)
  have hB := wantAt_new w1
  unfold wantCells at hB
  have hA2 : TreeAt (w1.alloc (.cells #[.int .i64 (-1), .int .i64 7, .int .i64 0, .int .i64 0, .int .i64 3, .int .i64 1, .int .i64 1, .int .i64 4, .int .i64 2, .int .i64 1, .int .i64 5, .int .i64 2] 43)) (some ⟨g, 0, none⟩) 4 LT := hA.chg ((Chg.refl NoB _).alloc _) (fun _ _ _ h => h)
  have hcB : Chg NoB W (w1.alloc (.cells #[.int .i64 (-1), .int .i64 7, .int .i64 0, .int .i64 0, .int .i64 3, .int .i64 1, .int .i64 1, .int .i64 4, .int .i64 2, .int .i64 1, .int .i64 5, .int .i64 2] 43)) := (((Chg.refl NoB W).alloc _).step hc1).alloc _
  have HA2 := Lib.hid hA2
  have HB := Lib.hid hB
  have HcB := Lib.hid hcB
  clear hA hB hA2 hcB hrow hc1
  go_wp2_with fail
  refine (eqNodes_yes _ _ 4 _ _ LT _ (by omega) HA2.out HB.out).mono ?_
  rintro e w2 ⟨rfl, hc2⟩
  go_wp2_with fail
  refine (tCheck_any _ 4 _ LT _ (HB.out.chg hc2 (fun _ _ _ h => h)) LT_wf).mono ?_
  rintro e w3 ⟨rfl, hc3⟩
  rw [show chk LT 4 = 0 from if_pos LT_ok]
  go_wp2
  exact bodyPost_ret (v := .bool true) (by simp [results, Try.results10, go_sem]) rfl ⟨rfl, (HcB.out.step hc2).step hc3⟩
end Go.Proofs.Ytokphbpgblhakaa

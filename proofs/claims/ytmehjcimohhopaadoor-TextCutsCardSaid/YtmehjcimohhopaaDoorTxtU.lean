/- What is agreed on, from one package to another; nothing is greater than it was: walked. No statement is proved here. -/
import Derived.Test.YtmehjcimohhopaaDoorTxtT
namespace Go.Proofs.YtmehjcimohhopaaDoor
open Go.RowKit

set_option maxRecDepth 100000 in
theorem ydefault_any (w : World) : Calls Tryd.prog 16 #[] w fun e w' => e = .returned (parV defPar) ∧ Below w.heap.size w w' := by
  go_enter Tryd.func16, Tryd.ntmps16
  go_wp2_with fail
  first
    | (refine bodyPost_ret (results_cell_row rfl _ _ w.heap.size 29 (parCells defPar) (0, 0) _ rfl (blk_new w _) Tryd.underlying29 rfl (by kernel_rfl)) rfl ?_
       exact ⟨rfl, box_below _ _⟩)
    | (go_ret
       exact ⟨rfl, Below.refl _ _⟩)
set_option maxRecDepth 100000 in
theorem xparams_any (p : Par) (w : World) : Calls Tryd.prog 14 #[parV p] w fun e w' => e = .returned (parV p) ∧ Below w.heap.size w w' := by
  have h := blk_new (w.alloc (.cells (parCells p) 32)) (.cells (parCells p) 29)
  rw [show (w.alloc (.cells (parCells p) 32)).heap.size = w.heap.size + 1 by simp] at h
  have hb := below_alloc (box_below w (.cells (parCells p) 32)) (.cells (parCells p) 29)
  have H := Lib.hid h
  have HB := Lib.hid hb
  clear h hb
  unfold parV parCells at *
  go_enter Tryd.func14, Tryd.ntmps14
  go_wp2_with fail
  refine bodyPost_ret (results_cell_row rfl _ _ (w.heap.size + 1) 29 _ (0, 0) _ rfl H.out Tryd.underlying29 rfl (by show _ = some 11; kernel_rfl)) rfl ?_
  exact ⟨rfl, HB.out⟩
set_option maxRecDepth 100000 in
theorem xown_any (p : Par) (w : World) : Calls Tryd.prog 18 #[parV p] w fun e w' => e = .returned (parV p) ∧ Below w.heap.size w w' := by
  have h := blk_new (w.alloc (.cells (parCells p) 29)) (.cells (parCells p) 32)
  rw [show (w.alloc (.cells (parCells p) 29)).heap.size = w.heap.size + 1 by simp] at h
  have hb := below_alloc (box_below w (.cells (parCells p) 29)) (.cells (parCells p) 32)
  have H := Lib.hid h
  have HB := Lib.hid hb
  clear h hb
  unfold parV parCells at *
  go_enter Tryd.func18, Tryd.ntmps18
  go_wp2_with fail
  refine bodyPost_ret (results_cell_row rfl _ _ (w.heap.size + 1) 32 _ (0, 0) _ rfl H.out Tryd.underlying32 rfl (by show _ = some 11; kernel_rfl)) rfl ?_
  exact ⟨rfl, HB.out⟩
end Go.Proofs.YtmehjcimohhopaaDoor

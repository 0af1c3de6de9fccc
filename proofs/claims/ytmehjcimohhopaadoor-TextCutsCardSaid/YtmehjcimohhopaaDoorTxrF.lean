/- Two lists of pairs that are alike. No statement is proved here. -/
import Derived.Test.YtmehjcimohhopaaDoorTxrE
namespace Go.Proofs.YtmehjcimohhopaaDoor
open Go.RowKit

set_option maxRecDepth 100000 in
set_option maxHeartbeats 1000000 in
theorem ysame_eq {S T : Nat → Prop} (va vb : Value) (l : List Pr) (w : World) (ha : PairsAt S w va l) (hb : PairsAt T w vb l) : Calls Tryd.prog 21 #[va, vb] w fun e w' => e = .returned (.bool true) ∧ Below w.heap.size w w' := by
  obtain ⟨A, cA, rfl⟩ := RowAt.slice ha
  obtain ⟨B, cB, rfl⟩ := RowAt.slice hb
  have hlen := RowAt.le ha
  unfold maxLen at hlen
  have Ha := Lib.hid ha
  have Hb := Lib.hid hb
  clear ha hb
  go_enter Tryd.func21, Tryd.ntmps21
  go_wp2_with fail
  go_loopw [5] (fun i wr => ∃ j : Nat, j ≤ l.length ∧ i = .int .i64 j ∧ Hid (Below w.heap.size w wr)) (fun i _ => l.length - (intOf i).toNat)
  case atStart => exact ⟨0, Nat.zero_le _, rfl, Lib.hid (Below.refl _ _)⟩
  case round =>
    obtain ⟨j, hj, rfl, HW⟩ := hrel
    by_cases hlt : j < l.length
    · have hlt3 : (j : Int) < l.length := by omega
      obtain ⟨b1, b2, b3, hv1, hn1, hc1, -, hab1, hcell1⟩ := RowAt.form Ha.out (by omega)
      injection hv1 with hv1 _ hv3
      subst hv1 hv3
      obtain ⟨b4, b5, b6, hv2, hn2, hc2, -, hab2, hcell2⟩ := RowAt.form Hb.out (by omega)
      injection hv2 with hv2 _ hv4
      subst hv2 hv4
      obtain ⟨p0, p1⟩ := pairCells_at l j hlt
      have x0 := cell_keep HW.out (hcell1 _ _ p0)
      have x1 := cell_keep HW.out (hcell1 _ _ p1)
      have y0 := cell_keep HW.out (hcell2 _ _ p0)
      have y1 := cell_keep HW.out (hcell2 _ _ p1)
      rw [← Nat.add_assoc] at x1 y1
      obtain ⟨⟨kk, vv⟩, hkv⟩ : ∃ p, l[j] = p := ⟨_, rfl⟩
      rw [hkv] at x0 x1 y0 y1
      clear hcell1 hcell2 p0 p1 hkv hn1 hn2 hab1 hab2
      go_wp2_with fail
      go_region
      go_wp2_with fail
      exact ⟨⟨j + 1, hlt, by go_num, Lib.hid (below_drew1 HW.out)⟩, by simp [intOf]; omega⟩
    · obtain rfl : j = l.length := by omega
      go_wp2_with fail
      go_ret
      exact ⟨rfl, HW.out⟩
end Go.Proofs.YtmehjcimohhopaaDoor

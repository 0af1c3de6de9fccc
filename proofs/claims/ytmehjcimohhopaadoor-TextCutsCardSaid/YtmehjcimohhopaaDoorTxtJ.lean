/- Answers to a value: words that hold None; function values that are made. No statement is proved here. -/
import Derived.Test.YtmehjcimohhopaaDoorTxtI
namespace Go.Proofs.YtmehjcimohhopaaDoor
open Go.RowKit

theorem noneS_l : noneS.toList = [78, 111, 110, 101] := by rw [ByteArray.toList_eq]; rfl
set_option maxRecDepth 100000 in
theorem idx_any (g : Nat) (ws : List ByteArray) (t : TypeId) (w : World) (hr : w.heap[g]? = some (.cells (ws.map Value.string).toArray t (0, 0))) (hl : ws.length ≤ 4294967281) :
    Calls Tryd.prog 75 #[.slice (some ⟨g, 0, none⟩) ws.length ws.length, .string noneS] w fun e w' => (∃ i : Int, e = .returned (.int .i64 i) ∧ decide (i ≥ 0) = ws.any isNone) ∧ w = w' := by
  have Hr := Lib.hid hr
  have hl2 : (ws.length : Int) ≤ 4294967281 := by omega
  clear hr hl
  go_enter Tryd.func75, Tryd.ntmps75
  go_wp2_with fail
  go_loop [8] (fun i => ∃ j : Nat, j ≤ ws.length ∧ i = .int .i64 j ∧ Hid ((ws.take j).any isNone = false)) (fun i => ws.length - (intOf i).toNat)
  case atStart => exact ⟨0, Nat.zero_le _, rfl, Lib.hid rfl⟩
  case round =>
    obtain ⟨j, hj, rfl, HJ⟩ := hrel
    by_cases hlt : j < ws.length
    · have hc := word_at Hr.out j hlt
      have hlt2 : (j : Int) < ws.length := by omega
      obtain ⟨x, hx⟩ : ∃ x, ws[j] = x := ⟨_, rfl⟩
      rw [hx] at hc
      have Hx := Lib.hid hx
      clear hx
      by_cases hn : x.toList = [78, 111, 110, 101]
      · have e : ws.any isNone = true := List.any_eq_true.2 ⟨x, by rw [← Hx.out]; exact List.getElem_mem hlt, by unfold isNone; rw [hn]; rfl⟩
        have He := Lib.hid e
        have hn2 : (noneS.toList == [78, 111, 110, 101]) = true := by rw [noneS_l]; rfl
        clear e
        go_wp2_with fail
        go_ret
        exact ⟨⟨_, rfl, by rw [He.out]; simp⟩, rfl⟩
      · have hn2 : (noneS.toList == x.toList) = false := by
          rw [noneS_l]
          simpa using fun h => hn h.symm
        go_wp2_with fail
        go_round
        case rel =>
          refine ⟨j + 1, hlt, by go_num, Lib.hid ?_⟩
          rw [List.take_succ_eq_append_getElem hlt, List.any_append, HJ.out, Hx.out]
          simp [isNone, hn]
        case measure => simp [intOf]; omega
    · obtain rfl : j = ws.length := by omega
      have hn := HJ.out
      rw [List.take_of_length_le (Nat.le_refl _)] at hn
      have Hn := Lib.hid hn
      clear hn
      go_wp2_with fail
      go_ret
      exact ⟨⟨_, rfl, by rw [Hn.out]; simp⟩, rfl⟩
theorem cont_any (g : Nat) (ws : List ByteArray) (t : TypeId) (w : World) (hr : w.heap[g]? = some (.cells (ws.map Value.string).toArray t (0, 0))) (hl : ws.length ≤ 4294967281) :
    Calls Tryd.prog 50 #[.slice (some ⟨g, 0, none⟩) ws.length ws.length, .string noneS] w fun e w' => e = .returned (.bool (ws.any isNone)) ∧ w = w' := by
  have H := Lib.hid (idx_any g ws t w hr hl)
  clear hr
  go_enter Tryd.func50, Tryd.ntmps50
  go_wp2_with fail
  refine H.out.mono ?_
  rintro _ _ ⟨⟨i, rfl, hi⟩, rfl⟩
  have Hi := Lib.hid hi
  clear hi
  go_wp2_with fail
  go_ret
  exact ⟨by rw [← Hi.out]; rfl, rfl⟩
theorem size_any (b k : Nat) (w : World) : Calls Tryd.prog 54 #[.pointer (some ⟨b, k, none⟩)] w fun e w' => e = .returned (.func (.func 76) #[] #[.pointer (some ⟨w.heap.size, 0, none⟩)]) ∧ Below w.heap.size w w' ∧ ∃ tp, w'.heap[w.heap.size]? = some (.cells #[.pointer (some ⟨b, k, none⟩)] tp (0, 0)) := by
  go_enter Tryd.func54, Tryd.ntmps54
  go_wp2_with fail
  go_ret
  exact ⟨rfl, box_below _ _, _, blk_new _ _⟩
theorem always_any (s : ByteArray) (w : World) : Calls Tryd.prog 47 #[.string s] w fun e w' => e = .returned (.func (.func 48) #[] #[.pointer (some ⟨w.heap.size, 0, none⟩)]) ∧ Below w.heap.size w w' ∧ ∃ tp, w'.heap[w.heap.size]? = some (.cells #[.string s] tp (0, 0)) := by
  go_enter Tryd.func47, Tryd.ntmps47
  go_wp2_with fail
  go_ret
  exact ⟨rfl, box_below _ _, _, blk_new _ _⟩
end Go.Proofs.YtmehjcimohhopaaDoor

/- A writer's bytes and end. No statement is proved here. -/
import Derived.Test.YtoaoldhajpbenaaFldB
import Derived.Deep.CutBlock
namespace Go.Proofs.Ytoaoldhajpbenaa
open Go.RowKit

set_option maxRecDepth 100000 in
set_option maxHeartbeats 1000000 in
theorem wend_ok (B g : Nat) (xs : List UInt8) (w : World) (h : WrAt 142 B w g xs 0) (hx : xs.length ≤ 1000000000) :
    Calls Try.prog 53 #[.pointer (some ⟨g, 0, none⟩)] w fun e w' => ∃ v, e = .returned (.tuple #[v, .int .i64 0]) ∧ Bytes (w.heap.size ≤ ·) w' v xs ∧ Below w.heap.size w w' := by
  obtain ⟨hB, v, hblk, hown⟩ := h
  obtain ⟨c0, c1, f0, f1⟩ := cells2 hblk
  have hby : Bytes (B ≤ ·) w v xs := RowAt.of_own hown
  obtain ⟨A, c, rfl⟩ := hby.slice
  have Hby := Lib.hid hby
  clear hown hby hblk
  go_enter Try.func53, Try.ntmps53
  go_wp2_with fail
  refine (clone_bytes _ _ xs Hby.out (by omega)).mono ?_
  rintro e w1 ⟨v', rfl, hown, hb⟩
  have hr := RowAt.of_own hown
  obtain ⟨A', c', rfl⟩ := hr.slice
  have Hr := Lib.hid hr
  clear hr hown
  go_wp2_with fail
  go_ret2
  exact ⟨_, rfl, Hr.out, hb⟩

/-- An error stands. -/
theorem wend_no (B g : Nat) (xs : List UInt8) (er : Int) (w : World) (h : WrAt 142 B w g xs er) (he : er ≠ 0) :
    Calls Try.prog 53 #[.pointer (some ⟨g, 0, none⟩)] w fun e w' => e = .returned (.tuple #[.slice none 0 0, .int .i64 er]) ∧ Below w.heap.size w w' := by
  obtain ⟨hB, v, hblk, hown⟩ := h
  obtain ⟨c0, c1, f0, f1⟩ := cells2 hblk
  have heb : (er == 0) = false := by simpa using he
  have heb2 : (er != 0) = true := by simpa using he
  clear hown hblk he
  go_enter Try.func53, Try.ntmps53
  go_wp2_with fail
  go_quiet (fail)
  go_wp2_with fail
  go_ret2
  exact ⟨rfl, below_drewN (Below.refl _ _) _⟩
end Go.Proofs.Ytoaoldhajpbenaa

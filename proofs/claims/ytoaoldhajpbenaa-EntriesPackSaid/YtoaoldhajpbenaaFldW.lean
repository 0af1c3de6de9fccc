/- A writer's bytes behind their length. No statement is proved here. -/
import Derived.Test.YtoaoldhajpbenaaFldG
import Derived.Test.YtoaoldhajpbenaaFldD
import Derived.Test.YtoaoldhajpbenaaFldR
namespace Go.Proofs.Ytoaoldhajpbenaa
open Go.RowKit

theorem wbytes_of {S1 : Nat → Prop} (S : Nat → Prop) (B g : Nat) (xs p : List UInt8) (size : Int) (y : Value) (w : World) (h : WrS 142 S B w g xs 0) (hS : ∀ b, S b → b < w.heap.size) (hp : Bytes S1 w y p) (ys : List UInt8)
    (hadd : ∀ v, Bytes (B ≤ ·) w v xs → Calls Try.prog 93 #[v, .int .i64 size, y] w fun e w' => ∃ u, e = .returned (.tuple #[u, .int .i64 0]) ∧ w'.ownsRow w.heap.size 5 1 u ys.length (byteCells ys) ∧ Below w.heap.size w w') :
    Calls Try.prog 67 #[.pointer (some ⟨g, 0, none⟩), .int .i64 size, y] w fun e w' => (∃ v, e = .returned v) ∧ WrS 142 S B w' g ys 0 ∧ Same S w w' ∧ Below B w w' := by
  obtain ⟨hB, hSg, v, hblk, hown, hvS⟩ := h
  have HS := Lib.hid hS
  clear hS hvS
  obtain ⟨c0, c1, f0, f1⟩ := cells2 hblk
  have hgs := block_lt c0
  have Hblk := Lib.hid hblk
  have hr := RowAt.of_own hown
  obtain ⟨A, c, rfl⟩ := hr.slice
  have Hadd := Lib.hid (hadd _ hr)
  obtain ⟨A2, c2, rfl⟩ := hp.slice
  clear hblk hown hr hadd hp
  go_enter Try.func67, Try.ntmps67
  go_wp2_with fail
  refine Hadd.out.mono ?_
  rintro _ w1 ⟨u, rfl, hown1, hb1⟩
  have hblk1 := blk_keep hb1 Hblk.out
  obtain ⟨d0, d1, e0, e1⟩ := cells2 hblk1
  obtain ⟨A3, c3, rfl⟩ := (RowAt.of_own hown1).slice
  have Hblk1 := Lib.hid hblk1
  have Hown1 := Lib.hid hown1
  clear hblk1 hown1
  go_wp2_with fail
  go_end0
  refine ⟨⟨_, rfl⟩, ⟨hB, hSg, _, blk_put Hblk1.out _, own_lower (own_far Hown1.out hgs _) (by omega), fun k hk hs => ?_⟩, (Same.of_below' hb1 S).setCell hSg _, (hb1.mono (by omega)).setCell hB _⟩
  have := own_blk_ge Hown1.out k hk
  have := HS.out k hs
  omega

theorem wbytes_at2 {S1 : Nat → Prop} (S : Nat → Prop) (B g : Nat) (xs p : List UInt8) (y : Value) (w : World) (h : WrS 142 S B w g xs 0) (hS : ∀ b, S b → b < w.heap.size) (hp : Bytes S1 w y p) (hx : xs.length ≤ 100000000) (hl : p.length < 65536) :
    Calls Try.prog 67 #[.pointer (some ⟨g, 0, none⟩), .int .i64 2, y] w fun e w' => (∃ v, e = .returned v) ∧ WrS 142 S B w' g (xs ++ be 2 p.length ++ p) 0 ∧ Same S w w' ∧ Below B w w' := by
  refine wbytes_of S B g xs p 2 y w h hS hp _ fun v hv => ?_
  obtain ⟨A, c, rfl⟩ := hv.slice
  obtain ⟨A2, c2, rfl⟩ := hp.slice
  exact add_at2 A A2 xs.length p.length c c2 xs p w hv hp rfl rfl hx hl
theorem wbytes_at4 {S1 : Nat → Prop} (S : Nat → Prop) (B g : Nat) (xs p : List UInt8) (y : Value) (w : World) (h : WrS 142 S B w g xs 0) (hS : ∀ b, S b → b < w.heap.size) (hp : Bytes S1 w y p) (hx : xs.length ≤ 100000000) (hl : p.length ≤ 65536) :
    Calls Try.prog 67 #[.pointer (some ⟨g, 0, none⟩), .int .i64 4, y] w fun e w' => (∃ v, e = .returned v) ∧ WrS 142 S B w' g (xs ++ be 4 p.length ++ p) 0 ∧ Same S w w' ∧ Below B w w' := by
  refine wbytes_of S B g xs p 4 y w h hS hp _ fun v hv => ?_
  obtain ⟨A, c, rfl⟩ := hv.slice
  obtain ⟨A2, c2, rfl⟩ := hp.slice
  exact add_at4 A A2 xs.length p.length c c2 xs p w hv hp rfl rfl hx hl
end Go.Proofs.Ytoaoldhajpbenaa

/- A writer's numbers. No statement is proved here. -/
import Derived.Test.YtahagecdebadfaaGreatQFldF
namespace Go.Proofs.YtahagecdebadfaaGreat
open Go.RowKit

set_option maxRecDepth 100000 in
set_option maxHeartbeats 1000000 in
theorem wnum_at1 (S : Nat → Prop) (B g : Nat) (xs : List UInt8) (n : Int) (w : World) (h : WrS 176 S B w g xs 0) (hS : ∀ b, S b → b < w.heap.size) (hn0 : 0 ≤ n) (hN : n < 256) (hx : xs.length ≤ 1000000000) :
    Calls Tryz.prog 136 #[.pointer (some ⟨g, 0, none⟩), .int .i64 1, .int .i64 n] w fun e w' => (∃ v, e = .returned v) ∧ WrS 176 S B w' g (xs ++ be 1 n.toNat) 0 ∧ Same S w w' ∧ Below B w w' := by
  obtain ⟨hB, hSg, v, hblk, hown, hvS⟩ := h
  have HvS := Lib.hid hvS
  have HS := Lib.hid hS
  clear hvS hS
  obtain ⟨c0, c1, f0, f1⟩ := cells2 hblk
  have hgs := block_lt c0
  have Hown := Lib.hid hown
  have Hblk := Lib.hid hblk
  have hnum : ∀ W, Calls Tryz.prog 144 #[.int .u64 n] W fun e w' => e = .returned (.agg (num8 n).toArray) ∧ Below W.heap.size W w' := by
    obtain ⟨N, rfl⟩ : ∃ N : Nat, n = N := ⟨n.toNat, by omega⟩
    exact fun W => number_any N W (by omega)
  have Hnum := Lib.hid hnum
  have hbe : byteCells (be 1 n.toNat) = [.int .u8 (n % 256)] := by
    obtain ⟨N, rfl⟩ : ∃ N : Nat, n = N := ⟨n.toNat, by omega⟩
    rw [Int.toNat_natCast, ← be_drop N 1 (by omega)]
    have e : byteCells ((be 8 N).drop (8 - 1)) = (byteCells (be 8 N)).drop (8 - 1) := by simp [byteCells]
    rw [e, ← num8_be N (by omega)]
    rfl
  have Hbe := Lib.hid hbe
  obtain ⟨i0, hi, hz0, hz1, hz2⟩ := info_parts infoU8
  clear hown hblk hbe hnum
  go_enter Tryz.func136, Tryz.ntmps136
  go_wp2_with (go_at_call 144; refine (Hnum.out _).mono ?_; rintro _ w1 ⟨rfl, hb1⟩; unfold num8; have d0 := cell_keep hb1 c0; have d1 := cell_keep hb1 c1)
  have hbb := box_below w1 (.cells #[.int .u8 (n / 72057594037927936), .int .u8 (n / 281474976710656 % 256), .int .u8 (n / 1099511627776 % 256), .int .u8 (n / 4294967296 % 256), .int .u8 (n / 16777216 % 256), .int .u8 (n / 65536 % 256), .int .u8 (n / 256 % 256), .int .u8 (n % 256)] 184)
  have hA := blk_new w1 (.cells #[.int .u8 (n / 72057594037927936), .int .u8 (n / 281474976710656 % 256), .int .u8 (n / 1099511627776 % 256), .int .u8 (n / 4294967296 % 256), .int .u8 (n / 16777216 % 256), .int .u8 (n / 65536 % 256), .int .u8 (n / 256 % 256), .int .u8 (n % 256)] 184)
  obtain ⟨W2, hW2⟩ : ∃ W2, w1.alloc (.cells #[.int .u8 (n / 72057594037927936), .int .u8 (n / 281474976710656 % 256), .int .u8 (n / 1099511627776 % 256), .int .u8 (n / 4294967296 % 256), .int .u8 (n / 16777216 % 256), .int .u8 (n / 65536 % 256), .int .u8 (n / 256 % 256), .int .u8 (n % 256)] 184) = W2 := ⟨_, rfl⟩
  rw [hW2] at hbb hA ⊢
  have k0 := cell_keep hbb d0
  have hs2 := hbb.size
  have hs1 := hb1.size
  have ownW := own_keep (own_keep Hown.out hb1) hbb
  have blkW := blk_keep hbb (blk_keep hb1 Hblk.out)
  have HownW := Lib.hid ownW
  have HblkW := Lib.hid blkW
  have HA := Lib.hid hA
  clear hW2 ownW blkW hA
  have ew : IntKind.i64.wrap 7 = 7 := by decide
  have hcl : ∀ j u, ([.int .u8 (n % 256)] : List Value)[j]? = some u → W2.drew.cell? ((⟨w1.heap.size, 7, none⟩ : Addr).add j) = some u := by
    intro j u hu
    rw [add_plain]
    show W2.cell? _ = _
    rw [cell_of_row W2 _ _ _ _ _ HA.out, ← hu]
    simp [Nat.add_comm 7 j]
  have hone : ∀ u ∈ ([.int .u8 (n % 256)] : List Value), u.oneCell' = true := by simp [Value.oneCell']
  have hownD : W2.drew.ownsRow B 5 1 v xs.length (byteCells xs) := HownW.out
  have h1 : xs.length + 1 ≤ maxLen := by simp [maxLen]; omega
  have h2 : (xs.length + 1) * 1 ≤ 140737488355328 := by omega
  have h3 : B ≤ W2.drew.heap.size := by show B ≤ W2.heap.size; omega
  have hblkD : W2.drew.heap[g]? = some (.cells #[v, .int .i64 0] 176 (0, 0)) := HblkW.out
  have HblkD := Lib.hid hblkD
  have hT5 : 5 ≠ 176 := by decide
  clear hblkD
  have Hcl := Lib.hid hcl
  have Hone := Lib.hid hone
  have HownD := Lib.hid hownD
  clear hcl hone hownD
  go_region_law (
    (refine step_append_lies _ rfl (.tmp 23) (.tmp 26) 40 rfl B 5 i0 (.int .u8 0) 1 1 Tryz.underlying40 hi hz0 hz1 hz2 rfl (by decide) v xs.length (byteCells xs) rfl HownD.out ⟨w1.heap.size, 7, none⟩ 1 1 [.int .u8 (n % 256)] rfl rfl Hcl.out Hone.out (by decide) h1 h2 h3 _ rfl ?_
     intro g3 cap3 w3 hown3 hg3 hat3 hlt3
     have blk3 := wr_grown (W := W2.drew) HblkD.out hT5 HownD.out hg3
     obtain ⟨m0, m1, mf0, mf1⟩ := cells2 blk3))
  have hown4 : w3.ownsRow B 5 1 (.slice (some ⟨g3, 0, none⟩) (xs.length + 1) cap3) (xs.length + 1) (byteCells (xs ++ be 1 n.toNat)) := by
    rw [byteCells_append, Hbe.out]; exact hown3
  have hln : xs.length + 1 = (xs ++ be 1 n.toNat).length := by simp [be_length]
  have hrowS : ∀ k, some g3 = some k → ¬ S k := by
    intro k hk hSk
    injection hk with hk
    subst hk
    rcases hat3 with h | h
    · exact HvS.out _ h hSk
    · have := HS.out _ hSk
      have e : W2.drew.heap.size = W2.heap.size := rfl
      omega
  have hwr : WrS 176 S B (w3.setCell ⟨g, 0, none⟩ (.slice (some ⟨g3, 0, none⟩) (xs.length + 1) cap3)) g (xs ++ be 1 n.toNat) 0 := ⟨hB, hSg, .slice (some ⟨g3, 0, none⟩) (xs.length + 1) cap3, blk_put blk3 _, by rw [← hln]; exact own_put hown4 blk3 hT5 _, hrowS⟩
  have hsm : Same S w (w3.setCell ⟨g, 0, none⟩ (.slice (some ⟨g3, 0, none⟩) (xs.length + 1) cap3)) :=
    ((((Same.of_below' hb1 S).trans (Same.of_below' hbb S)).drew).trans (same_grownO hg3 HvS.out)).setCell hSg _
  have Hsm := Lib.hid hsm
  have q1 : Below B w w1 := hb1.mono (by omega)
  have q2 : Below B w1 W2 := hbb.mono (by omega)
  have q3 : Below B w W2.drew := (q1.trans q2).drew
  have hbl : Below B w w3 := q3.grown hg3 (by show B ≤ W2.heap.size; omega) (own_blk_ge HownD.out)
  have hbl2 := hbl.setCell (p := ⟨g, 0, none⟩) hB (.slice (some ⟨g3, 0, none⟩) (xs.length + 1) cap3)
  have Hwr := Lib.hid hwr
  have Hbl := Lib.hid hbl2
  clear hwr hbl hbl2 blk3 hsm hrowS
  go_wp2_with fail
  go_end0
  exact ⟨⟨_, rfl⟩, Hwr.out, Hsm.out, Hbl.out⟩

set_option maxRecDepth 100000 in
set_option maxHeartbeats 1000000 in
theorem wnum_at2 (S : Nat → Prop) (B g : Nat) (xs : List UInt8) (n : Int) (w : World) (h : WrS 176 S B w g xs 0) (hS : ∀ b, S b → b < w.heap.size) (hn0 : 0 ≤ n) (hN : n < 65536) (hx : xs.length ≤ 1000000000) :
    Calls Tryz.prog 136 #[.pointer (some ⟨g, 0, none⟩), .int .i64 2, .int .i64 n] w fun e w' => (∃ v, e = .returned v) ∧ WrS 176 S B w' g (xs ++ be 2 n.toNat) 0 ∧ Same S w w' ∧ Below B w w' := by
  obtain ⟨hB, hSg, v, hblk, hown, hvS⟩ := h
  have HvS := Lib.hid hvS
  have HS := Lib.hid hS
  clear hvS hS
  obtain ⟨c0, c1, f0, f1⟩ := cells2 hblk
  have hgs := block_lt c0
  have Hown := Lib.hid hown
  have Hblk := Lib.hid hblk
  have hnum : ∀ W, Calls Tryz.prog 144 #[.int .u64 n] W fun e w' => e = .returned (.agg (num8 n).toArray) ∧ Below W.heap.size W w' := by
    obtain ⟨N, rfl⟩ : ∃ N : Nat, n = N := ⟨n.toNat, by omega⟩
    exact fun W => number_any N W (by omega)
  have Hnum := Lib.hid hnum
  have hbe : byteCells (be 2 n.toNat) = [.int .u8 (n / 256 % 256), .int .u8 (n % 256)] := by
    obtain ⟨N, rfl⟩ : ∃ N : Nat, n = N := ⟨n.toNat, by omega⟩
    rw [Int.toNat_natCast, ← be_drop N 2 (by omega)]
    have e : byteCells ((be 8 N).drop (8 - 2)) = (byteCells (be 8 N)).drop (8 - 2) := by simp [byteCells]
    rw [e, ← num8_be N (by omega)]
    rfl
  have Hbe := Lib.hid hbe
  obtain ⟨i0, hi, hz0, hz1, hz2⟩ := info_parts infoU8
  clear hown hblk hbe hnum
  go_enter Tryz.func136, Tryz.ntmps136
  go_wp2_with (go_at_call 144; refine (Hnum.out _).mono ?_; rintro _ w1 ⟨rfl, hb1⟩; unfold num8; have d0 := cell_keep hb1 c0; have d1 := cell_keep hb1 c1)
  have hbb := box_below w1 (.cells #[.int .u8 (n / 72057594037927936), .int .u8 (n / 281474976710656 % 256), .int .u8 (n / 1099511627776 % 256), .int .u8 (n / 4294967296 % 256), .int .u8 (n / 16777216 % 256), .int .u8 (n / 65536 % 256), .int .u8 (n / 256 % 256), .int .u8 (n % 256)] 184)
  have hA := blk_new w1 (.cells #[.int .u8 (n / 72057594037927936), .int .u8 (n / 281474976710656 % 256), .int .u8 (n / 1099511627776 % 256), .int .u8 (n / 4294967296 % 256), .int .u8 (n / 16777216 % 256), .int .u8 (n / 65536 % 256), .int .u8 (n / 256 % 256), .int .u8 (n % 256)] 184)
  obtain ⟨W2, hW2⟩ : ∃ W2, w1.alloc (.cells #[.int .u8 (n / 72057594037927936), .int .u8 (n / 281474976710656 % 256), .int .u8 (n / 1099511627776 % 256), .int .u8 (n / 4294967296 % 256), .int .u8 (n / 16777216 % 256), .int .u8 (n / 65536 % 256), .int .u8 (n / 256 % 256), .int .u8 (n % 256)] 184) = W2 := ⟨_, rfl⟩
  rw [hW2] at hbb hA ⊢
  have k0 := cell_keep hbb d0
  have hs2 := hbb.size
  have hs1 := hb1.size
  have ownW := own_keep (own_keep Hown.out hb1) hbb
  have blkW := blk_keep hbb (blk_keep hb1 Hblk.out)
  have HownW := Lib.hid ownW
  have HblkW := Lib.hid blkW
  have HA := Lib.hid hA
  clear hW2 ownW blkW hA
  have ew : IntKind.i64.wrap 6 = 6 := by decide
  have hcl : ∀ j u, ([.int .u8 (n / 256 % 256), .int .u8 (n % 256)] : List Value)[j]? = some u → W2.drew.cell? ((⟨w1.heap.size, 6, none⟩ : Addr).add j) = some u := by
    intro j u hu
    rw [add_plain]
    show W2.cell? _ = _
    rw [cell_of_row W2 _ _ _ _ _ HA.out, ← hu]
    simp [Nat.add_comm 6 j]
  have hone : ∀ u ∈ ([.int .u8 (n / 256 % 256), .int .u8 (n % 256)] : List Value), u.oneCell' = true := by simp [Value.oneCell']
  have hownD : W2.drew.ownsRow B 5 1 v xs.length (byteCells xs) := HownW.out
  have h1 : xs.length + 2 ≤ maxLen := by simp [maxLen]; omega
  have h2 : (xs.length + 2) * 1 ≤ 140737488355328 := by omega
  have h3 : B ≤ W2.drew.heap.size := by show B ≤ W2.heap.size; omega
  have hblkD : W2.drew.heap[g]? = some (.cells #[v, .int .i64 0] 176 (0, 0)) := HblkW.out
  have HblkD := Lib.hid hblkD
  have hT5 : 5 ≠ 176 := by decide
  clear hblkD
  have Hcl := Lib.hid hcl
  have Hone := Lib.hid hone
  have HownD := Lib.hid hownD
  clear hcl hone hownD
  go_region_law (
    (refine step_append_lies _ rfl (.tmp 23) (.tmp 26) 40 rfl B 5 i0 (.int .u8 0) 1 1 Tryz.underlying40 hi hz0 hz1 hz2 rfl (by decide) v xs.length (byteCells xs) rfl HownD.out ⟨w1.heap.size, 6, none⟩ 2 2 [.int .u8 (n / 256 % 256), .int .u8 (n % 256)] rfl rfl Hcl.out Hone.out (by decide) h1 h2 h3 _ rfl ?_
     intro g3 cap3 w3 hown3 hg3 hat3 hlt3
     have blk3 := wr_grown (W := W2.drew) HblkD.out hT5 HownD.out hg3
     obtain ⟨m0, m1, mf0, mf1⟩ := cells2 blk3))
  have hown4 : w3.ownsRow B 5 1 (.slice (some ⟨g3, 0, none⟩) (xs.length + 2) cap3) (xs.length + 2) (byteCells (xs ++ be 2 n.toNat)) := by
    rw [byteCells_append, Hbe.out]; exact hown3
  have hln : xs.length + 2 = (xs ++ be 2 n.toNat).length := by simp [be_length]
  have hrowS : ∀ k, some g3 = some k → ¬ S k := by
    intro k hk hSk
    injection hk with hk
    subst hk
    rcases hat3 with h | h
    · exact HvS.out _ h hSk
    · have := HS.out _ hSk
      have e : W2.drew.heap.size = W2.heap.size := rfl
      omega
  have hwr : WrS 176 S B (w3.setCell ⟨g, 0, none⟩ (.slice (some ⟨g3, 0, none⟩) (xs.length + 2) cap3)) g (xs ++ be 2 n.toNat) 0 := ⟨hB, hSg, .slice (some ⟨g3, 0, none⟩) (xs.length + 2) cap3, blk_put blk3 _, by rw [← hln]; exact own_put hown4 blk3 hT5 _, hrowS⟩
  have hsm : Same S w (w3.setCell ⟨g, 0, none⟩ (.slice (some ⟨g3, 0, none⟩) (xs.length + 2) cap3)) :=
    ((((Same.of_below' hb1 S).trans (Same.of_below' hbb S)).drew).trans (same_grownO hg3 HvS.out)).setCell hSg _
  have Hsm := Lib.hid hsm
  have q1 : Below B w w1 := hb1.mono (by omega)
  have q2 : Below B w1 W2 := hbb.mono (by omega)
  have q3 : Below B w W2.drew := (q1.trans q2).drew
  have hbl : Below B w w3 := q3.grown hg3 (by show B ≤ W2.heap.size; omega) (own_blk_ge HownD.out)
  have hbl2 := hbl.setCell (p := ⟨g, 0, none⟩) hB (.slice (some ⟨g3, 0, none⟩) (xs.length + 2) cap3)
  have Hwr := Lib.hid hwr
  have Hbl := Lib.hid hbl2
  clear hwr hbl hbl2 blk3 hsm hrowS
  go_wp2_with fail
  go_end0
  exact ⟨⟨_, rfl⟩, Hwr.out, Hsm.out, Hbl.out⟩

set_option maxRecDepth 100000 in
set_option maxHeartbeats 1000000 in
theorem wnum_at3 (S : Nat → Prop) (B g : Nat) (xs : List UInt8) (n : Int) (w : World) (h : WrS 176 S B w g xs 0) (hS : ∀ b, S b → b < w.heap.size) (hn0 : 0 ≤ n) (hN : n < 16777216) (hx : xs.length ≤ 1000000000) :
    Calls Tryz.prog 136 #[.pointer (some ⟨g, 0, none⟩), .int .i64 3, .int .i64 n] w fun e w' => (∃ v, e = .returned v) ∧ WrS 176 S B w' g (xs ++ be 3 n.toNat) 0 ∧ Same S w w' ∧ Below B w w' := by
  obtain ⟨hB, hSg, v, hblk, hown, hvS⟩ := h
  have HvS := Lib.hid hvS
  have HS := Lib.hid hS
  clear hvS hS
  obtain ⟨c0, c1, f0, f1⟩ := cells2 hblk
  have hgs := block_lt c0
  have Hown := Lib.hid hown
  have Hblk := Lib.hid hblk
  have hnum : ∀ W, Calls Tryz.prog 144 #[.int .u64 n] W fun e w' => e = .returned (.agg (num8 n).toArray) ∧ Below W.heap.size W w' := by
    obtain ⟨N, rfl⟩ : ∃ N : Nat, n = N := ⟨n.toNat, by omega⟩
    exact fun W => number_any N W (by omega)
  have Hnum := Lib.hid hnum
  have hbe : byteCells (be 3 n.toNat) = [.int .u8 (n / 65536 % 256), .int .u8 (n / 256 % 256), .int .u8 (n % 256)] := by
    obtain ⟨N, rfl⟩ : ∃ N : Nat, n = N := ⟨n.toNat, by omega⟩
    rw [Int.toNat_natCast, ← be_drop N 3 (by omega)]
    have e : byteCells ((be 8 N).drop (8 - 3)) = (byteCells (be 8 N)).drop (8 - 3) := by simp [byteCells]
    rw [e, ← num8_be N (by omega)]
    rfl
  have Hbe := Lib.hid hbe
  obtain ⟨i0, hi, hz0, hz1, hz2⟩ := info_parts infoU8
  clear hown hblk hbe hnum
  go_enter Tryz.func136, Tryz.ntmps136
  go_wp2_with (go_at_call 144; refine (Hnum.out _).mono ?_; rintro _ w1 ⟨rfl, hb1⟩; unfold num8; have d0 := cell_keep hb1 c0; have d1 := cell_keep hb1 c1)
  have hbb := box_below w1 (.cells #[.int .u8 (n / 72057594037927936), .int .u8 (n / 281474976710656 % 256), .int .u8 (n / 1099511627776 % 256), .int .u8 (n / 4294967296 % 256), .int .u8 (n / 16777216 % 256), .int .u8 (n / 65536 % 256), .int .u8 (n / 256 % 256), .int .u8 (n % 256)] 184)
  have hA := blk_new w1 (.cells #[.int .u8 (n / 72057594037927936), .int .u8 (n / 281474976710656 % 256), .int .u8 (n / 1099511627776 % 256), .int .u8 (n / 4294967296 % 256), .int .u8 (n / 16777216 % 256), .int .u8 (n / 65536 % 256), .int .u8 (n / 256 % 256), .int .u8 (n % 256)] 184)
  obtain ⟨W2, hW2⟩ : ∃ W2, w1.alloc (.cells #[.int .u8 (n / 72057594037927936), .int .u8 (n / 281474976710656 % 256), .int .u8 (n / 1099511627776 % 256), .int .u8 (n / 4294967296 % 256), .int .u8 (n / 16777216 % 256), .int .u8 (n / 65536 % 256), .int .u8 (n / 256 % 256), .int .u8 (n % 256)] 184) = W2 := ⟨_, rfl⟩
  rw [hW2] at hbb hA ⊢
  have k0 := cell_keep hbb d0
  have hs2 := hbb.size
  have hs1 := hb1.size
  have ownW := own_keep (own_keep Hown.out hb1) hbb
  have blkW := blk_keep hbb (blk_keep hb1 Hblk.out)
  have HownW := Lib.hid ownW
  have HblkW := Lib.hid blkW
  have HA := Lib.hid hA
  clear hW2 ownW blkW hA
  have ew : IntKind.i64.wrap 5 = 5 := by decide
  have hcl : ∀ j u, ([.int .u8 (n / 65536 % 256), .int .u8 (n / 256 % 256), .int .u8 (n % 256)] : List Value)[j]? = some u → W2.drew.cell? ((⟨w1.heap.size, 5, none⟩ : Addr).add j) = some u := by
    intro j u hu
    rw [add_plain]
    show W2.cell? _ = _
    rw [cell_of_row W2 _ _ _ _ _ HA.out, ← hu]
    simp [Nat.add_comm 5 j]
  have hone : ∀ u ∈ ([.int .u8 (n / 65536 % 256), .int .u8 (n / 256 % 256), .int .u8 (n % 256)] : List Value), u.oneCell' = true := by simp [Value.oneCell']
  have hownD : W2.drew.ownsRow B 5 1 v xs.length (byteCells xs) := HownW.out
  have h1 : xs.length + 3 ≤ maxLen := by simp [maxLen]; omega
  have h2 : (xs.length + 3) * 1 ≤ 140737488355328 := by omega
  have h3 : B ≤ W2.drew.heap.size := by show B ≤ W2.heap.size; omega
  have hblkD : W2.drew.heap[g]? = some (.cells #[v, .int .i64 0] 176 (0, 0)) := HblkW.out
  have HblkD := Lib.hid hblkD
  have hT5 : 5 ≠ 176 := by decide
  clear hblkD
  have Hcl := Lib.hid hcl
  have Hone := Lib.hid hone
  have HownD := Lib.hid hownD
  clear hcl hone hownD
  go_region_law (
    (refine step_append_lies _ rfl (.tmp 23) (.tmp 26) 40 rfl B 5 i0 (.int .u8 0) 1 1 Tryz.underlying40 hi hz0 hz1 hz2 rfl (by decide) v xs.length (byteCells xs) rfl HownD.out ⟨w1.heap.size, 5, none⟩ 3 3 [.int .u8 (n / 65536 % 256), .int .u8 (n / 256 % 256), .int .u8 (n % 256)] rfl rfl Hcl.out Hone.out (by decide) h1 h2 h3 _ rfl ?_
     intro g3 cap3 w3 hown3 hg3 hat3 hlt3
     have blk3 := wr_grown (W := W2.drew) HblkD.out hT5 HownD.out hg3
     obtain ⟨m0, m1, mf0, mf1⟩ := cells2 blk3))
  have hown4 : w3.ownsRow B 5 1 (.slice (some ⟨g3, 0, none⟩) (xs.length + 3) cap3) (xs.length + 3) (byteCells (xs ++ be 3 n.toNat)) := by
    rw [byteCells_append, Hbe.out]; exact hown3
  have hln : xs.length + 3 = (xs ++ be 3 n.toNat).length := by simp [be_length]
  have hrowS : ∀ k, some g3 = some k → ¬ S k := by
    intro k hk hSk
    injection hk with hk
    subst hk
    rcases hat3 with h | h
    · exact HvS.out _ h hSk
    · have := HS.out _ hSk
      have e : W2.drew.heap.size = W2.heap.size := rfl
      omega
  have hwr : WrS 176 S B (w3.setCell ⟨g, 0, none⟩ (.slice (some ⟨g3, 0, none⟩) (xs.length + 3) cap3)) g (xs ++ be 3 n.toNat) 0 := ⟨hB, hSg, .slice (some ⟨g3, 0, none⟩) (xs.length + 3) cap3, blk_put blk3 _, by rw [← hln]; exact own_put hown4 blk3 hT5 _, hrowS⟩
  have hsm : Same S w (w3.setCell ⟨g, 0, none⟩ (.slice (some ⟨g3, 0, none⟩) (xs.length + 3) cap3)) :=
    ((((Same.of_below' hb1 S).trans (Same.of_below' hbb S)).drew).trans (same_grownO hg3 HvS.out)).setCell hSg _
  have Hsm := Lib.hid hsm
  have q1 : Below B w w1 := hb1.mono (by omega)
  have q2 : Below B w1 W2 := hbb.mono (by omega)
  have q3 : Below B w W2.drew := (q1.trans q2).drew
  have hbl : Below B w w3 := q3.grown hg3 (by show B ≤ W2.heap.size; omega) (own_blk_ge HownD.out)
  have hbl2 := hbl.setCell (p := ⟨g, 0, none⟩) hB (.slice (some ⟨g3, 0, none⟩) (xs.length + 3) cap3)
  have Hwr := Lib.hid hwr
  have Hbl := Lib.hid hbl2
  clear hwr hbl hbl2 blk3 hsm hrowS
  go_wp2_with fail
  go_end0
  exact ⟨⟨_, rfl⟩, Hwr.out, Hsm.out, Hbl.out⟩

set_option maxRecDepth 100000 in
set_option maxHeartbeats 1000000 in
theorem wnum_at4 (S : Nat → Prop) (B g : Nat) (xs : List UInt8) (n : Int) (w : World) (h : WrS 176 S B w g xs 0) (hS : ∀ b, S b → b < w.heap.size) (hn0 : 0 ≤ n) (hN : n < 4294967296) (hx : xs.length ≤ 1000000000) :
    Calls Tryz.prog 136 #[.pointer (some ⟨g, 0, none⟩), .int .i64 4, .int .i64 n] w fun e w' => (∃ v, e = .returned v) ∧ WrS 176 S B w' g (xs ++ be 4 n.toNat) 0 ∧ Same S w w' ∧ Below B w w' := by
  obtain ⟨hB, hSg, v, hblk, hown, hvS⟩ := h
  have HvS := Lib.hid hvS
  have HS := Lib.hid hS
  clear hvS hS
  obtain ⟨c0, c1, f0, f1⟩ := cells2 hblk
  have hgs := block_lt c0
  have Hown := Lib.hid hown
  have Hblk := Lib.hid hblk
  have hnum : ∀ W, Calls Tryz.prog 144 #[.int .u64 n] W fun e w' => e = .returned (.agg (num8 n).toArray) ∧ Below W.heap.size W w' := by
    obtain ⟨N, rfl⟩ : ∃ N : Nat, n = N := ⟨n.toNat, by omega⟩
    exact fun W => number_any N W (by omega)
  have Hnum := Lib.hid hnum
  have hbe : byteCells (be 4 n.toNat) = [.int .u8 (n / 16777216 % 256), .int .u8 (n / 65536 % 256), .int .u8 (n / 256 % 256), .int .u8 (n % 256)] := by
    obtain ⟨N, rfl⟩ : ∃ N : Nat, n = N := ⟨n.toNat, by omega⟩
    rw [Int.toNat_natCast, ← be_drop N 4 (by omega)]
    have e : byteCells ((be 8 N).drop (8 - 4)) = (byteCells (be 8 N)).drop (8 - 4) := by simp [byteCells]
    rw [e, ← num8_be N (by omega)]
    rfl
  have Hbe := Lib.hid hbe
  obtain ⟨i0, hi, hz0, hz1, hz2⟩ := info_parts infoU8
  clear hown hblk hbe hnum
  go_enter Tryz.func136, Tryz.ntmps136
  go_wp2_with (go_at_call 144; refine (Hnum.out _).mono ?_; rintro _ w1 ⟨rfl, hb1⟩; unfold num8; have d0 := cell_keep hb1 c0; have d1 := cell_keep hb1 c1)
  have hbb := box_below w1 (.cells #[.int .u8 (n / 72057594037927936), .int .u8 (n / 281474976710656 % 256), .int .u8 (n / 1099511627776 % 256), .int .u8 (n / 4294967296 % 256), .int .u8 (n / 16777216 % 256), .int .u8 (n / 65536 % 256), .int .u8 (n / 256 % 256), .int .u8 (n % 256)] 184)
  have hA := blk_new w1 (.cells #[.int .u8 (n / 72057594037927936), .int .u8 (n / 281474976710656 % 256), .int .u8 (n / 1099511627776 % 256), .int .u8 (n / 4294967296 % 256), .int .u8 (n / 16777216 % 256), .int .u8 (n / 65536 % 256), .int .u8 (n / 256 % 256), .int .u8 (n % 256)] 184)
  obtain ⟨W2, hW2⟩ : ∃ W2, w1.alloc (.cells #[.int .u8 (n / 72057594037927936), .int .u8 (n / 281474976710656 % 256), .int .u8 (n / 1099511627776 % 256), .int .u8 (n / 4294967296 % 256), .int .u8 (n / 16777216 % 256), .int .u8 (n / 65536 % 256), .int .u8 (n / 256 % 256), .int .u8 (n % 256)] 184) = W2 := ⟨_, rfl⟩
  rw [hW2] at hbb hA ⊢
  have k0 := cell_keep hbb d0
  have hs2 := hbb.size
  have hs1 := hb1.size
  have ownW := own_keep (own_keep Hown.out hb1) hbb
  have blkW := blk_keep hbb (blk_keep hb1 Hblk.out)
  have HownW := Lib.hid ownW
  have HblkW := Lib.hid blkW
  have HA := Lib.hid hA
  clear hW2 ownW blkW hA
  have ew : IntKind.i64.wrap 4 = 4 := by decide
  have hcl : ∀ j u, ([.int .u8 (n / 16777216 % 256), .int .u8 (n / 65536 % 256), .int .u8 (n / 256 % 256), .int .u8 (n % 256)] : List Value)[j]? = some u → W2.drew.cell? ((⟨w1.heap.size, 4, none⟩ : Addr).add j) = some u := by
    intro j u hu
    rw [add_plain]
    show W2.cell? _ = _
    rw [cell_of_row W2 _ _ _ _ _ HA.out, ← hu]
    simp [Nat.add_comm 4 j]
  have hone : ∀ u ∈ ([.int .u8 (n / 16777216 % 256), .int .u8 (n / 65536 % 256), .int .u8 (n / 256 % 256), .int .u8 (n % 256)] : List Value), u.oneCell' = true := by simp [Value.oneCell']
  have hownD : W2.drew.ownsRow B 5 1 v xs.length (byteCells xs) := HownW.out
  have h1 : xs.length + 4 ≤ maxLen := by simp [maxLen]; omega
  have h2 : (xs.length + 4) * 1 ≤ 140737488355328 := by omega
  have h3 : B ≤ W2.drew.heap.size := by show B ≤ W2.heap.size; omega
  have hblkD : W2.drew.heap[g]? = some (.cells #[v, .int .i64 0] 176 (0, 0)) := HblkW.out
  have HblkD := Lib.hid hblkD
  have hT5 : 5 ≠ 176 := by decide
  clear hblkD
  have Hcl := Lib.hid hcl
  have Hone := Lib.hid hone
  have HownD := Lib.hid hownD
  clear hcl hone hownD
  go_region_law (
    (refine step_append_lies _ rfl (.tmp 23) (.tmp 26) 40 rfl B 5 i0 (.int .u8 0) 1 1 Tryz.underlying40 hi hz0 hz1 hz2 rfl (by decide) v xs.length (byteCells xs) rfl HownD.out ⟨w1.heap.size, 4, none⟩ 4 4 [.int .u8 (n / 16777216 % 256), .int .u8 (n / 65536 % 256), .int .u8 (n / 256 % 256), .int .u8 (n % 256)] rfl rfl Hcl.out Hone.out (by decide) h1 h2 h3 _ rfl ?_
     intro g3 cap3 w3 hown3 hg3 hat3 hlt3
     have blk3 := wr_grown (W := W2.drew) HblkD.out hT5 HownD.out hg3
     obtain ⟨m0, m1, mf0, mf1⟩ := cells2 blk3))
  have hown4 : w3.ownsRow B 5 1 (.slice (some ⟨g3, 0, none⟩) (xs.length + 4) cap3) (xs.length + 4) (byteCells (xs ++ be 4 n.toNat)) := by
    rw [byteCells_append, Hbe.out]; exact hown3
  have hln : xs.length + 4 = (xs ++ be 4 n.toNat).length := by simp [be_length]
  have hrowS : ∀ k, some g3 = some k → ¬ S k := by
    intro k hk hSk
    injection hk with hk
    subst hk
    rcases hat3 with h | h
    · exact HvS.out _ h hSk
    · have := HS.out _ hSk
      have e : W2.drew.heap.size = W2.heap.size := rfl
      omega
  have hwr : WrS 176 S B (w3.setCell ⟨g, 0, none⟩ (.slice (some ⟨g3, 0, none⟩) (xs.length + 4) cap3)) g (xs ++ be 4 n.toNat) 0 := ⟨hB, hSg, .slice (some ⟨g3, 0, none⟩) (xs.length + 4) cap3, blk_put blk3 _, by rw [← hln]; exact own_put hown4 blk3 hT5 _, hrowS⟩
  have hsm : Same S w (w3.setCell ⟨g, 0, none⟩ (.slice (some ⟨g3, 0, none⟩) (xs.length + 4) cap3)) :=
    ((((Same.of_below' hb1 S).trans (Same.of_below' hbb S)).drew).trans (same_grownO hg3 HvS.out)).setCell hSg _
  have Hsm := Lib.hid hsm
  have q1 : Below B w w1 := hb1.mono (by omega)
  have q2 : Below B w1 W2 := hbb.mono (by omega)
  have q3 : Below B w W2.drew := (q1.trans q2).drew
  have hbl : Below B w w3 := q3.grown hg3 (by show B ≤ W2.heap.size; omega) (own_blk_ge HownD.out)
  have hbl2 := hbl.setCell (p := ⟨g, 0, none⟩) hB (.slice (some ⟨g3, 0, none⟩) (xs.length + 4) cap3)
  have Hwr := Lib.hid hwr
  have Hbl := Lib.hid hbl2
  clear hwr hbl hbl2 blk3 hsm hrowS
  go_wp2_with fail
  go_end0
  exact ⟨⟨_, rfl⟩, Hwr.out, Hsm.out, Hbl.out⟩

set_option maxRecDepth 100000 in
set_option maxHeartbeats 1000000 in
theorem wnum_at5 (S : Nat → Prop) (B g : Nat) (xs : List UInt8) (n : Int) (w : World) (h : WrS 176 S B w g xs 0) (hS : ∀ b, S b → b < w.heap.size) (hn0 : 0 ≤ n) (hN : n < 1099511627776) (hx : xs.length ≤ 1000000000) :
    Calls Tryz.prog 136 #[.pointer (some ⟨g, 0, none⟩), .int .i64 5, .int .i64 n] w fun e w' => (∃ v, e = .returned v) ∧ WrS 176 S B w' g (xs ++ be 5 n.toNat) 0 ∧ Same S w w' ∧ Below B w w' := by
  obtain ⟨hB, hSg, v, hblk, hown, hvS⟩ := h
  have HvS := Lib.hid hvS
  have HS := Lib.hid hS
  clear hvS hS
  obtain ⟨c0, c1, f0, f1⟩ := cells2 hblk
  have hgs := block_lt c0
  have Hown := Lib.hid hown
  have Hblk := Lib.hid hblk
  have hnum : ∀ W, Calls Tryz.prog 144 #[.int .u64 n] W fun e w' => e = .returned (.agg (num8 n).toArray) ∧ Below W.heap.size W w' := by
    obtain ⟨N, rfl⟩ : ∃ N : Nat, n = N := ⟨n.toNat, by omega⟩
    exact fun W => number_any N W (by omega)
  have Hnum := Lib.hid hnum
  have hbe : byteCells (be 5 n.toNat) = [.int .u8 (n / 4294967296 % 256), .int .u8 (n / 16777216 % 256), .int .u8 (n / 65536 % 256), .int .u8 (n / 256 % 256), .int .u8 (n % 256)] := by
    obtain ⟨N, rfl⟩ : ∃ N : Nat, n = N := ⟨n.toNat, by omega⟩
    rw [Int.toNat_natCast, ← be_drop N 5 (by omega)]
    have e : byteCells ((be 8 N).drop (8 - 5)) = (byteCells (be 8 N)).drop (8 - 5) := by simp [byteCells]
    rw [e, ← num8_be N (by omega)]
    rfl
  have Hbe := Lib.hid hbe
  obtain ⟨i0, hi, hz0, hz1, hz2⟩ := info_parts infoU8
  clear hown hblk hbe hnum
  go_enter Tryz.func136, Tryz.ntmps136
  go_wp2_with (go_at_call 144; refine (Hnum.out _).mono ?_; rintro _ w1 ⟨rfl, hb1⟩; unfold num8; have d0 := cell_keep hb1 c0; have d1 := cell_keep hb1 c1)
  have hbb := box_below w1 (.cells #[.int .u8 (n / 72057594037927936), .int .u8 (n / 281474976710656 % 256), .int .u8 (n / 1099511627776 % 256), .int .u8 (n / 4294967296 % 256), .int .u8 (n / 16777216 % 256), .int .u8 (n / 65536 % 256), .int .u8 (n / 256 % 256), .int .u8 (n % 256)] 184)
  have hA := blk_new w1 (.cells #[.int .u8 (n / 72057594037927936), .int .u8 (n / 281474976710656 % 256), .int .u8 (n / 1099511627776 % 256), .int .u8 (n / 4294967296 % 256), .int .u8 (n / 16777216 % 256), .int .u8 (n / 65536 % 256), .int .u8 (n / 256 % 256), .int .u8 (n % 256)] 184)
  obtain ⟨W2, hW2⟩ : ∃ W2, w1.alloc (.cells #[.int .u8 (n / 72057594037927936), .int .u8 (n / 281474976710656 % 256), .int .u8 (n / 1099511627776 % 256), .int .u8 (n / 4294967296 % 256), .int .u8 (n / 16777216 % 256), .int .u8 (n / 65536 % 256), .int .u8 (n / 256 % 256), .int .u8 (n % 256)] 184) = W2 := ⟨_, rfl⟩
  rw [hW2] at hbb hA ⊢
  have k0 := cell_keep hbb d0
  have hs2 := hbb.size
  have hs1 := hb1.size
  have ownW := own_keep (own_keep Hown.out hb1) hbb
  have blkW := blk_keep hbb (blk_keep hb1 Hblk.out)
  have HownW := Lib.hid ownW
  have HblkW := Lib.hid blkW
  have HA := Lib.hid hA
  clear hW2 ownW blkW hA
  have ew : IntKind.i64.wrap 3 = 3 := by decide
  have hcl : ∀ j u, ([.int .u8 (n / 4294967296 % 256), .int .u8 (n / 16777216 % 256), .int .u8 (n / 65536 % 256), .int .u8 (n / 256 % 256), .int .u8 (n % 256)] : List Value)[j]? = some u → W2.drew.cell? ((⟨w1.heap.size, 3, none⟩ : Addr).add j) = some u := by
    intro j u hu
    rw [add_plain]
    show W2.cell? _ = _
    rw [cell_of_row W2 _ _ _ _ _ HA.out, ← hu]
    simp [Nat.add_comm 3 j]
  have hone : ∀ u ∈ ([.int .u8 (n / 4294967296 % 256), .int .u8 (n / 16777216 % 256), .int .u8 (n / 65536 % 256), .int .u8 (n / 256 % 256), .int .u8 (n % 256)] : List Value), u.oneCell' = true := by simp [Value.oneCell']
  have hownD : W2.drew.ownsRow B 5 1 v xs.length (byteCells xs) := HownW.out
  have h1 : xs.length + 5 ≤ maxLen := by simp [maxLen]; omega
  have h2 : (xs.length + 5) * 1 ≤ 140737488355328 := by omega
  have h3 : B ≤ W2.drew.heap.size := by show B ≤ W2.heap.size; omega
  have hblkD : W2.drew.heap[g]? = some (.cells #[v, .int .i64 0] 176 (0, 0)) := HblkW.out
  have HblkD := Lib.hid hblkD
  have hT5 : 5 ≠ 176 := by decide
  clear hblkD
  have Hcl := Lib.hid hcl
  have Hone := Lib.hid hone
  have HownD := Lib.hid hownD
  clear hcl hone hownD
  go_region_law (
    (refine step_append_lies _ rfl (.tmp 23) (.tmp 26) 40 rfl B 5 i0 (.int .u8 0) 1 1 Tryz.underlying40 hi hz0 hz1 hz2 rfl (by decide) v xs.length (byteCells xs) rfl HownD.out ⟨w1.heap.size, 3, none⟩ 5 5 [.int .u8 (n / 4294967296 % 256), .int .u8 (n / 16777216 % 256), .int .u8 (n / 65536 % 256), .int .u8 (n / 256 % 256), .int .u8 (n % 256)] rfl rfl Hcl.out Hone.out (by decide) h1 h2 h3 _ rfl ?_
     intro g3 cap3 w3 hown3 hg3 hat3 hlt3
     have blk3 := wr_grown (W := W2.drew) HblkD.out hT5 HownD.out hg3
     obtain ⟨m0, m1, mf0, mf1⟩ := cells2 blk3))
  have hown4 : w3.ownsRow B 5 1 (.slice (some ⟨g3, 0, none⟩) (xs.length + 5) cap3) (xs.length + 5) (byteCells (xs ++ be 5 n.toNat)) := by
    rw [byteCells_append, Hbe.out]; exact hown3
  have hln : xs.length + 5 = (xs ++ be 5 n.toNat).length := by simp [be_length]
  have hrowS : ∀ k, some g3 = some k → ¬ S k := by
    intro k hk hSk
    injection hk with hk
    subst hk
    rcases hat3 with h | h
    · exact HvS.out _ h hSk
    · have := HS.out _ hSk
      have e : W2.drew.heap.size = W2.heap.size := rfl
      omega
  have hwr : WrS 176 S B (w3.setCell ⟨g, 0, none⟩ (.slice (some ⟨g3, 0, none⟩) (xs.length + 5) cap3)) g (xs ++ be 5 n.toNat) 0 := ⟨hB, hSg, .slice (some ⟨g3, 0, none⟩) (xs.length + 5) cap3, blk_put blk3 _, by rw [← hln]; exact own_put hown4 blk3 hT5 _, hrowS⟩
  have hsm : Same S w (w3.setCell ⟨g, 0, none⟩ (.slice (some ⟨g3, 0, none⟩) (xs.length + 5) cap3)) :=
    ((((Same.of_below' hb1 S).trans (Same.of_below' hbb S)).drew).trans (same_grownO hg3 HvS.out)).setCell hSg _
  have Hsm := Lib.hid hsm
  have q1 : Below B w w1 := hb1.mono (by omega)
  have q2 : Below B w1 W2 := hbb.mono (by omega)
  have q3 : Below B w W2.drew := (q1.trans q2).drew
  have hbl : Below B w w3 := q3.grown hg3 (by show B ≤ W2.heap.size; omega) (own_blk_ge HownD.out)
  have hbl2 := hbl.setCell (p := ⟨g, 0, none⟩) hB (.slice (some ⟨g3, 0, none⟩) (xs.length + 5) cap3)
  have Hwr := Lib.hid hwr
  have Hbl := Lib.hid hbl2
  clear hwr hbl hbl2 blk3 hsm hrowS
  go_wp2_with fail
  go_end0
  exact ⟨⟨_, rfl⟩, Hwr.out, Hsm.out, Hbl.out⟩

set_option maxRecDepth 100000 in
set_option maxHeartbeats 1000000 in
theorem wnum_at6 (S : Nat → Prop) (B g : Nat) (xs : List UInt8) (n : Int) (w : World) (h : WrS 176 S B w g xs 0) (hS : ∀ b, S b → b < w.heap.size) (hn0 : 0 ≤ n) (hN : n < 281474976710656) (hx : xs.length ≤ 1000000000) :
    Calls Tryz.prog 136 #[.pointer (some ⟨g, 0, none⟩), .int .i64 6, .int .i64 n] w fun e w' => (∃ v, e = .returned v) ∧ WrS 176 S B w' g (xs ++ be 6 n.toNat) 0 ∧ Same S w w' ∧ Below B w w' := by
  obtain ⟨hB, hSg, v, hblk, hown, hvS⟩ := h
  have HvS := Lib.hid hvS
  have HS := Lib.hid hS
  clear hvS hS
  obtain ⟨c0, c1, f0, f1⟩ := cells2 hblk
  have hgs := block_lt c0
  have Hown := Lib.hid hown
  have Hblk := Lib.hid hblk
  have hnum : ∀ W, Calls Tryz.prog 144 #[.int .u64 n] W fun e w' => e = .returned (.agg (num8 n).toArray) ∧ Below W.heap.size W w' := by
    obtain ⟨N, rfl⟩ : ∃ N : Nat, n = N := ⟨n.toNat, by omega⟩
    exact fun W => number_any N W (by omega)
  have Hnum := Lib.hid hnum
  have hbe : byteCells (be 6 n.toNat) = [.int .u8 (n / 1099511627776 % 256), .int .u8 (n / 4294967296 % 256), .int .u8 (n / 16777216 % 256), .int .u8 (n / 65536 % 256), .int .u8 (n / 256 % 256), .int .u8 (n % 256)] := by
    obtain ⟨N, rfl⟩ : ∃ N : Nat, n = N := ⟨n.toNat, by omega⟩
    rw [Int.toNat_natCast, ← be_drop N 6 (by omega)]
    have e : byteCells ((be 8 N).drop (8 - 6)) = (byteCells (be 8 N)).drop (8 - 6) := by simp [byteCells]
    rw [e, ← num8_be N (by omega)]
    rfl
  have Hbe := Lib.hid hbe
  obtain ⟨i0, hi, hz0, hz1, hz2⟩ := info_parts infoU8
  clear hown hblk hbe hnum
  go_enter Tryz.func136, Tryz.ntmps136
  go_wp2_with (go_at_call 144; refine (Hnum.out _).mono ?_; rintro _ w1 ⟨rfl, hb1⟩; unfold num8; have d0 := cell_keep hb1 c0; have d1 := cell_keep hb1 c1)
  have hbb := box_below w1 (.cells #[.int .u8 (n / 72057594037927936), .int .u8 (n / 281474976710656 % 256), .int .u8 (n / 1099511627776 % 256), .int .u8 (n / 4294967296 % 256), .int .u8 (n / 16777216 % 256), .int .u8 (n / 65536 % 256), .int .u8 (n / 256 % 256), .int .u8 (n % 256)] 184)
  have hA := blk_new w1 (.cells #[.int .u8 (n / 72057594037927936), .int .u8 (n / 281474976710656 % 256), .int .u8 (n / 1099511627776 % 256), .int .u8 (n / 4294967296 % 256), .int .u8 (n / 16777216 % 256), .int .u8 (n / 65536 % 256), .int .u8 (n / 256 % 256), .int .u8 (n % 256)] 184)
  obtain ⟨W2, hW2⟩ : ∃ W2, w1.alloc (.cells #[.int .u8 (n / 72057594037927936), .int .u8 (n / 281474976710656 % 256), .int .u8 (n / 1099511627776 % 256), .int .u8 (n / 4294967296 % 256), .int .u8 (n / 16777216 % 256), .int .u8 (n / 65536 % 256), .int .u8 (n / 256 % 256), .int .u8 (n % 256)] 184) = W2 := ⟨_, rfl⟩
  rw [hW2] at hbb hA ⊢
  have k0 := cell_keep hbb d0
  have hs2 := hbb.size
  have hs1 := hb1.size
  have ownW := own_keep (own_keep Hown.out hb1) hbb
  have blkW := blk_keep hbb (blk_keep hb1 Hblk.out)
  have HownW := Lib.hid ownW
  have HblkW := Lib.hid blkW
  have HA := Lib.hid hA
  clear hW2 ownW blkW hA
  have ew : IntKind.i64.wrap 2 = 2 := by decide
  have hcl : ∀ j u, ([.int .u8 (n / 1099511627776 % 256), .int .u8 (n / 4294967296 % 256), .int .u8 (n / 16777216 % 256), .int .u8 (n / 65536 % 256), .int .u8 (n / 256 % 256), .int .u8 (n % 256)] : List Value)[j]? = some u → W2.drew.cell? ((⟨w1.heap.size, 2, none⟩ : Addr).add j) = some u := by
    intro j u hu
    rw [add_plain]
    show W2.cell? _ = _
    rw [cell_of_row W2 _ _ _ _ _ HA.out, ← hu]
    simp [Nat.add_comm 2 j]
  have hone : ∀ u ∈ ([.int .u8 (n / 1099511627776 % 256), .int .u8 (n / 4294967296 % 256), .int .u8 (n / 16777216 % 256), .int .u8 (n / 65536 % 256), .int .u8 (n / 256 % 256), .int .u8 (n % 256)] : List Value), u.oneCell' = true := by simp [Value.oneCell']
  have hownD : W2.drew.ownsRow B 5 1 v xs.length (byteCells xs) := HownW.out
  have h1 : xs.length + 6 ≤ maxLen := by simp [maxLen]; omega
  have h2 : (xs.length + 6) * 1 ≤ 140737488355328 := by omega
  have h3 : B ≤ W2.drew.heap.size := by show B ≤ W2.heap.size; omega
  have hblkD : W2.drew.heap[g]? = some (.cells #[v, .int .i64 0] 176 (0, 0)) := HblkW.out
  have HblkD := Lib.hid hblkD
  have hT5 : 5 ≠ 176 := by decide
  clear hblkD
  have Hcl := Lib.hid hcl
  have Hone := Lib.hid hone
  have HownD := Lib.hid hownD
  clear hcl hone hownD
  go_region_law (
    (refine step_append_lies _ rfl (.tmp 23) (.tmp 26) 40 rfl B 5 i0 (.int .u8 0) 1 1 Tryz.underlying40 hi hz0 hz1 hz2 rfl (by decide) v xs.length (byteCells xs) rfl HownD.out ⟨w1.heap.size, 2, none⟩ 6 6 [.int .u8 (n / 1099511627776 % 256), .int .u8 (n / 4294967296 % 256), .int .u8 (n / 16777216 % 256), .int .u8 (n / 65536 % 256), .int .u8 (n / 256 % 256), .int .u8 (n % 256)] rfl rfl Hcl.out Hone.out (by decide) h1 h2 h3 _ rfl ?_
     intro g3 cap3 w3 hown3 hg3 hat3 hlt3
     have blk3 := wr_grown (W := W2.drew) HblkD.out hT5 HownD.out hg3
     obtain ⟨m0, m1, mf0, mf1⟩ := cells2 blk3))
  have hown4 : w3.ownsRow B 5 1 (.slice (some ⟨g3, 0, none⟩) (xs.length + 6) cap3) (xs.length + 6) (byteCells (xs ++ be 6 n.toNat)) := by
    rw [byteCells_append, Hbe.out]; exact hown3
  have hln : xs.length + 6 = (xs ++ be 6 n.toNat).length := by simp [be_length]
  have hrowS : ∀ k, some g3 = some k → ¬ S k := by
    intro k hk hSk
    injection hk with hk
    subst hk
    rcases hat3 with h | h
    · exact HvS.out _ h hSk
    · have := HS.out _ hSk
      have e : W2.drew.heap.size = W2.heap.size := rfl
      omega
  have hwr : WrS 176 S B (w3.setCell ⟨g, 0, none⟩ (.slice (some ⟨g3, 0, none⟩) (xs.length + 6) cap3)) g (xs ++ be 6 n.toNat) 0 := ⟨hB, hSg, .slice (some ⟨g3, 0, none⟩) (xs.length + 6) cap3, blk_put blk3 _, by rw [← hln]; exact own_put hown4 blk3 hT5 _, hrowS⟩
  have hsm : Same S w (w3.setCell ⟨g, 0, none⟩ (.slice (some ⟨g3, 0, none⟩) (xs.length + 6) cap3)) :=
    ((((Same.of_below' hb1 S).trans (Same.of_below' hbb S)).drew).trans (same_grownO hg3 HvS.out)).setCell hSg _
  have Hsm := Lib.hid hsm
  have q1 : Below B w w1 := hb1.mono (by omega)
  have q2 : Below B w1 W2 := hbb.mono (by omega)
  have q3 : Below B w W2.drew := (q1.trans q2).drew
  have hbl : Below B w w3 := q3.grown hg3 (by show B ≤ W2.heap.size; omega) (own_blk_ge HownD.out)
  have hbl2 := hbl.setCell (p := ⟨g, 0, none⟩) hB (.slice (some ⟨g3, 0, none⟩) (xs.length + 6) cap3)
  have Hwr := Lib.hid hwr
  have Hbl := Lib.hid hbl2
  clear hwr hbl hbl2 blk3 hsm hrowS
  go_wp2_with fail
  go_end0
  exact ⟨⟨_, rfl⟩, Hwr.out, Hsm.out, Hbl.out⟩

set_option maxRecDepth 100000 in
set_option maxHeartbeats 1000000 in
theorem wnum_at7 (S : Nat → Prop) (B g : Nat) (xs : List UInt8) (n : Int) (w : World) (h : WrS 176 S B w g xs 0) (hS : ∀ b, S b → b < w.heap.size) (hn0 : 0 ≤ n) (hN : n < 72057594037927936) (hx : xs.length ≤ 1000000000) :
    Calls Tryz.prog 136 #[.pointer (some ⟨g, 0, none⟩), .int .i64 7, .int .i64 n] w fun e w' => (∃ v, e = .returned v) ∧ WrS 176 S B w' g (xs ++ be 7 n.toNat) 0 ∧ Same S w w' ∧ Below B w w' := by
  obtain ⟨hB, hSg, v, hblk, hown, hvS⟩ := h
  have HvS := Lib.hid hvS
  have HS := Lib.hid hS
  clear hvS hS
  obtain ⟨c0, c1, f0, f1⟩ := cells2 hblk
  have hgs := block_lt c0
  have Hown := Lib.hid hown
  have Hblk := Lib.hid hblk
  have hnum : ∀ W, Calls Tryz.prog 144 #[.int .u64 n] W fun e w' => e = .returned (.agg (num8 n).toArray) ∧ Below W.heap.size W w' := by
    obtain ⟨N, rfl⟩ : ∃ N : Nat, n = N := ⟨n.toNat, by omega⟩
    exact fun W => number_any N W (by omega)
  have Hnum := Lib.hid hnum
  have hbe : byteCells (be 7 n.toNat) = [.int .u8 (n / 281474976710656 % 256), .int .u8 (n / 1099511627776 % 256), .int .u8 (n / 4294967296 % 256), .int .u8 (n / 16777216 % 256), .int .u8 (n / 65536 % 256), .int .u8 (n / 256 % 256), .int .u8 (n % 256)] := by
    obtain ⟨N, rfl⟩ : ∃ N : Nat, n = N := ⟨n.toNat, by omega⟩
    rw [Int.toNat_natCast, ← be_drop N 7 (by omega)]
    have e : byteCells ((be 8 N).drop (8 - 7)) = (byteCells (be 8 N)).drop (8 - 7) := by simp [byteCells]
    rw [e, ← num8_be N (by omega)]
    rfl
  have Hbe := Lib.hid hbe
  obtain ⟨i0, hi, hz0, hz1, hz2⟩ := info_parts infoU8
  clear hown hblk hbe hnum
  go_enter Tryz.func136, Tryz.ntmps136
  go_wp2_with (go_at_call 144; refine (Hnum.out _).mono ?_; rintro _ w1 ⟨rfl, hb1⟩; unfold num8; have d0 := cell_keep hb1 c0; have d1 := cell_keep hb1 c1)
  have hbb := box_below w1 (.cells #[.int .u8 (n / 72057594037927936), .int .u8 (n / 281474976710656 % 256), .int .u8 (n / 1099511627776 % 256), .int .u8 (n / 4294967296 % 256), .int .u8 (n / 16777216 % 256), .int .u8 (n / 65536 % 256), .int .u8 (n / 256 % 256), .int .u8 (n % 256)] 184)
  have hA := blk_new w1 (.cells #[.int .u8 (n / 72057594037927936), .int .u8 (n / 281474976710656 % 256), .int .u8 (n / 1099511627776 % 256), .int .u8 (n / 4294967296 % 256), .int .u8 (n / 16777216 % 256), .int .u8 (n / 65536 % 256), .int .u8 (n / 256 % 256), .int .u8 (n % 256)] 184)
  obtain ⟨W2, hW2⟩ : ∃ W2, w1.alloc (.cells #[.int .u8 (n / 72057594037927936), .int .u8 (n / 281474976710656 % 256), .int .u8 (n / 1099511627776 % 256), .int .u8 (n / 4294967296 % 256), .int .u8 (n / 16777216 % 256), .int .u8 (n / 65536 % 256), .int .u8 (n / 256 % 256), .int .u8 (n % 256)] 184) = W2 := ⟨_, rfl⟩
  rw [hW2] at hbb hA ⊢
  have k0 := cell_keep hbb d0
  have hs2 := hbb.size
  have hs1 := hb1.size
  have ownW := own_keep (own_keep Hown.out hb1) hbb
  have blkW := blk_keep hbb (blk_keep hb1 Hblk.out)
  have HownW := Lib.hid ownW
  have HblkW := Lib.hid blkW
  have HA := Lib.hid hA
  clear hW2 ownW blkW hA
  have ew : IntKind.i64.wrap 1 = 1 := by decide
  have hcl : ∀ j u, ([.int .u8 (n / 281474976710656 % 256), .int .u8 (n / 1099511627776 % 256), .int .u8 (n / 4294967296 % 256), .int .u8 (n / 16777216 % 256), .int .u8 (n / 65536 % 256), .int .u8 (n / 256 % 256), .int .u8 (n % 256)] : List Value)[j]? = some u → W2.drew.cell? ((⟨w1.heap.size, 1, none⟩ : Addr).add j) = some u := by
    intro j u hu
    rw [add_plain]
    show W2.cell? _ = _
    rw [cell_of_row W2 _ _ _ _ _ HA.out, ← hu]
    simp [Nat.add_comm 1 j]
  have hone : ∀ u ∈ ([.int .u8 (n / 281474976710656 % 256), .int .u8 (n / 1099511627776 % 256), .int .u8 (n / 4294967296 % 256), .int .u8 (n / 16777216 % 256), .int .u8 (n / 65536 % 256), .int .u8 (n / 256 % 256), .int .u8 (n % 256)] : List Value), u.oneCell' = true := by simp [Value.oneCell']
  have hownD : W2.drew.ownsRow B 5 1 v xs.length (byteCells xs) := HownW.out
  have h1 : xs.length + 7 ≤ maxLen := by simp [maxLen]; omega
  have h2 : (xs.length + 7) * 1 ≤ 140737488355328 := by omega
  have h3 : B ≤ W2.drew.heap.size := by show B ≤ W2.heap.size; omega
  have hblkD : W2.drew.heap[g]? = some (.cells #[v, .int .i64 0] 176 (0, 0)) := HblkW.out
  have HblkD := Lib.hid hblkD
  have hT5 : 5 ≠ 176 := by decide
  clear hblkD
  have Hcl := Lib.hid hcl
  have Hone := Lib.hid hone
  have HownD := Lib.hid hownD
  clear hcl hone hownD
  go_region_law (
    (refine step_append_lies _ rfl (.tmp 23) (.tmp 26) 40 rfl B 5 i0 (.int .u8 0) 1 1 Tryz.underlying40 hi hz0 hz1 hz2 rfl (by decide) v xs.length (byteCells xs) rfl HownD.out ⟨w1.heap.size, 1, none⟩ 7 7 [.int .u8 (n / 281474976710656 % 256), .int .u8 (n / 1099511627776 % 256), .int .u8 (n / 4294967296 % 256), .int .u8 (n / 16777216 % 256), .int .u8 (n / 65536 % 256), .int .u8 (n / 256 % 256), .int .u8 (n % 256)] rfl rfl Hcl.out Hone.out (by decide) h1 h2 h3 _ rfl ?_
     intro g3 cap3 w3 hown3 hg3 hat3 hlt3
     have blk3 := wr_grown (W := W2.drew) HblkD.out hT5 HownD.out hg3
     obtain ⟨m0, m1, mf0, mf1⟩ := cells2 blk3))
  have hown4 : w3.ownsRow B 5 1 (.slice (some ⟨g3, 0, none⟩) (xs.length + 7) cap3) (xs.length + 7) (byteCells (xs ++ be 7 n.toNat)) := by
    rw [byteCells_append, Hbe.out]; exact hown3
  have hln : xs.length + 7 = (xs ++ be 7 n.toNat).length := by simp [be_length]
  have hrowS : ∀ k, some g3 = some k → ¬ S k := by
    intro k hk hSk
    injection hk with hk
    subst hk
    rcases hat3 with h | h
    · exact HvS.out _ h hSk
    · have := HS.out _ hSk
      have e : W2.drew.heap.size = W2.heap.size := rfl
      omega
  have hwr : WrS 176 S B (w3.setCell ⟨g, 0, none⟩ (.slice (some ⟨g3, 0, none⟩) (xs.length + 7) cap3)) g (xs ++ be 7 n.toNat) 0 := ⟨hB, hSg, .slice (some ⟨g3, 0, none⟩) (xs.length + 7) cap3, blk_put blk3 _, by rw [← hln]; exact own_put hown4 blk3 hT5 _, hrowS⟩
  have hsm : Same S w (w3.setCell ⟨g, 0, none⟩ (.slice (some ⟨g3, 0, none⟩) (xs.length + 7) cap3)) :=
    ((((Same.of_below' hb1 S).trans (Same.of_below' hbb S)).drew).trans (same_grownO hg3 HvS.out)).setCell hSg _
  have Hsm := Lib.hid hsm
  have q1 : Below B w w1 := hb1.mono (by omega)
  have q2 : Below B w1 W2 := hbb.mono (by omega)
  have q3 : Below B w W2.drew := (q1.trans q2).drew
  have hbl : Below B w w3 := q3.grown hg3 (by show B ≤ W2.heap.size; omega) (own_blk_ge HownD.out)
  have hbl2 := hbl.setCell (p := ⟨g, 0, none⟩) hB (.slice (some ⟨g3, 0, none⟩) (xs.length + 7) cap3)
  have Hwr := Lib.hid hwr
  have Hbl := Lib.hid hbl2
  clear hwr hbl hbl2 blk3 hsm hrowS
  go_wp2_with fail
  go_end0
  exact ⟨⟨_, rfl⟩, Hwr.out, Hsm.out, Hbl.out⟩

set_option maxRecDepth 100000 in
set_option maxHeartbeats 1000000 in
theorem wnum_at8 (S : Nat → Prop) (B g : Nat) (xs : List UInt8) (n : Int) (w : World) (h : WrS 176 S B w g xs 0) (hS : ∀ b, S b → b < w.heap.size) (hn0 : 0 ≤ n) (hN : n < 9223372036854775808) (hx : xs.length ≤ 1000000000) :
    Calls Tryz.prog 136 #[.pointer (some ⟨g, 0, none⟩), .int .i64 8, .int .i64 n] w fun e w' => (∃ v, e = .returned v) ∧ WrS 176 S B w' g (xs ++ be 8 n.toNat) 0 ∧ Same S w w' ∧ Below B w w' := by
  obtain ⟨hB, hSg, v, hblk, hown, hvS⟩ := h
  have HvS := Lib.hid hvS
  have HS := Lib.hid hS
  clear hvS hS
  obtain ⟨c0, c1, f0, f1⟩ := cells2 hblk
  have hgs := block_lt c0
  have Hown := Lib.hid hown
  have Hblk := Lib.hid hblk
  have hnum : ∀ W, Calls Tryz.prog 144 #[.int .u64 n] W fun e w' => e = .returned (.agg (num8 n).toArray) ∧ Below W.heap.size W w' := by
    obtain ⟨N, rfl⟩ : ∃ N : Nat, n = N := ⟨n.toNat, by omega⟩
    exact fun W => number_any N W (by omega)
  have Hnum := Lib.hid hnum
  have hbe : byteCells (be 8 n.toNat) = [.int .u8 (n / 72057594037927936), .int .u8 (n / 281474976710656 % 256), .int .u8 (n / 1099511627776 % 256), .int .u8 (n / 4294967296 % 256), .int .u8 (n / 16777216 % 256), .int .u8 (n / 65536 % 256), .int .u8 (n / 256 % 256), .int .u8 (n % 256)] := by
    obtain ⟨N, rfl⟩ : ∃ N : Nat, n = N := ⟨n.toNat, by omega⟩
    rw [Int.toNat_natCast, ← be_drop N 8 (by omega)]
    have e : byteCells ((be 8 N).drop (8 - 8)) = (byteCells (be 8 N)).drop (8 - 8) := by simp [byteCells]
    rw [e, ← num8_be N (by omega)]
    rfl
  have Hbe := Lib.hid hbe
  obtain ⟨i0, hi, hz0, hz1, hz2⟩ := info_parts infoU8
  clear hown hblk hbe hnum
  go_enter Tryz.func136, Tryz.ntmps136
  go_wp2_with (go_at_call 144; refine (Hnum.out _).mono ?_; rintro _ w1 ⟨rfl, hb1⟩; unfold num8; have d0 := cell_keep hb1 c0; have d1 := cell_keep hb1 c1)
  have hbb := box_below w1 (.cells #[.int .u8 (n / 72057594037927936), .int .u8 (n / 281474976710656 % 256), .int .u8 (n / 1099511627776 % 256), .int .u8 (n / 4294967296 % 256), .int .u8 (n / 16777216 % 256), .int .u8 (n / 65536 % 256), .int .u8 (n / 256 % 256), .int .u8 (n % 256)] 184)
  have hA := blk_new w1 (.cells #[.int .u8 (n / 72057594037927936), .int .u8 (n / 281474976710656 % 256), .int .u8 (n / 1099511627776 % 256), .int .u8 (n / 4294967296 % 256), .int .u8 (n / 16777216 % 256), .int .u8 (n / 65536 % 256), .int .u8 (n / 256 % 256), .int .u8 (n % 256)] 184)
  obtain ⟨W2, hW2⟩ : ∃ W2, w1.alloc (.cells #[.int .u8 (n / 72057594037927936), .int .u8 (n / 281474976710656 % 256), .int .u8 (n / 1099511627776 % 256), .int .u8 (n / 4294967296 % 256), .int .u8 (n / 16777216 % 256), .int .u8 (n / 65536 % 256), .int .u8 (n / 256 % 256), .int .u8 (n % 256)] 184) = W2 := ⟨_, rfl⟩
  rw [hW2] at hbb hA ⊢
  have k0 := cell_keep hbb d0
  have hs2 := hbb.size
  have hs1 := hb1.size
  have ownW := own_keep (own_keep Hown.out hb1) hbb
  have blkW := blk_keep hbb (blk_keep hb1 Hblk.out)
  have HownW := Lib.hid ownW
  have HblkW := Lib.hid blkW
  have HA := Lib.hid hA
  clear hW2 ownW blkW hA
  have ew : IntKind.i64.wrap 0 = 0 := by decide
  have hcl : ∀ j u, ([.int .u8 (n / 72057594037927936), .int .u8 (n / 281474976710656 % 256), .int .u8 (n / 1099511627776 % 256), .int .u8 (n / 4294967296 % 256), .int .u8 (n / 16777216 % 256), .int .u8 (n / 65536 % 256), .int .u8 (n / 256 % 256), .int .u8 (n % 256)] : List Value)[j]? = some u → W2.drew.cell? ((⟨w1.heap.size, 0, none⟩ : Addr).add j) = some u := by
    intro j u hu
    rw [add_plain]
    show W2.cell? _ = _
    rw [cell_of_row W2 _ _ _ _ _ HA.out, ← hu]
    simp [Nat.add_comm 0 j]
  have hone : ∀ u ∈ ([.int .u8 (n / 72057594037927936), .int .u8 (n / 281474976710656 % 256), .int .u8 (n / 1099511627776 % 256), .int .u8 (n / 4294967296 % 256), .int .u8 (n / 16777216 % 256), .int .u8 (n / 65536 % 256), .int .u8 (n / 256 % 256), .int .u8 (n % 256)] : List Value), u.oneCell' = true := by simp [Value.oneCell']
  have hownD : W2.drew.ownsRow B 5 1 v xs.length (byteCells xs) := HownW.out
  have h1 : xs.length + 8 ≤ maxLen := by simp [maxLen]; omega
  have h2 : (xs.length + 8) * 1 ≤ 140737488355328 := by omega
  have h3 : B ≤ W2.drew.heap.size := by show B ≤ W2.heap.size; omega
  have hblkD : W2.drew.heap[g]? = some (.cells #[v, .int .i64 0] 176 (0, 0)) := HblkW.out
  have HblkD := Lib.hid hblkD
  have hT5 : 5 ≠ 176 := by decide
  clear hblkD
  have Hcl := Lib.hid hcl
  have Hone := Lib.hid hone
  have HownD := Lib.hid hownD
  clear hcl hone hownD
  go_region_law (
    (refine step_append_lies _ rfl (.tmp 23) (.tmp 26) 40 rfl B 5 i0 (.int .u8 0) 1 1 Tryz.underlying40 hi hz0 hz1 hz2 rfl (by decide) v xs.length (byteCells xs) rfl HownD.out ⟨w1.heap.size, 0, none⟩ 8 8 [.int .u8 (n / 72057594037927936), .int .u8 (n / 281474976710656 % 256), .int .u8 (n / 1099511627776 % 256), .int .u8 (n / 4294967296 % 256), .int .u8 (n / 16777216 % 256), .int .u8 (n / 65536 % 256), .int .u8 (n / 256 % 256), .int .u8 (n % 256)] rfl rfl Hcl.out Hone.out (by decide) h1 h2 h3 _ rfl ?_
     intro g3 cap3 w3 hown3 hg3 hat3 hlt3
     have blk3 := wr_grown (W := W2.drew) HblkD.out hT5 HownD.out hg3
     obtain ⟨m0, m1, mf0, mf1⟩ := cells2 blk3))
  have hown4 : w3.ownsRow B 5 1 (.slice (some ⟨g3, 0, none⟩) (xs.length + 8) cap3) (xs.length + 8) (byteCells (xs ++ be 8 n.toNat)) := by
    rw [byteCells_append, Hbe.out]; exact hown3
  have hln : xs.length + 8 = (xs ++ be 8 n.toNat).length := by simp [be_length]
  have hrowS : ∀ k, some g3 = some k → ¬ S k := by
    intro k hk hSk
    injection hk with hk
    subst hk
    rcases hat3 with h | h
    · exact HvS.out _ h hSk
    · have := HS.out _ hSk
      have e : W2.drew.heap.size = W2.heap.size := rfl
      omega
  have hwr : WrS 176 S B (w3.setCell ⟨g, 0, none⟩ (.slice (some ⟨g3, 0, none⟩) (xs.length + 8) cap3)) g (xs ++ be 8 n.toNat) 0 := ⟨hB, hSg, .slice (some ⟨g3, 0, none⟩) (xs.length + 8) cap3, blk_put blk3 _, by rw [← hln]; exact own_put hown4 blk3 hT5 _, hrowS⟩
  have hsm : Same S w (w3.setCell ⟨g, 0, none⟩ (.slice (some ⟨g3, 0, none⟩) (xs.length + 8) cap3)) :=
    ((((Same.of_below' hb1 S).trans (Same.of_below' hbb S)).drew).trans (same_grownO hg3 HvS.out)).setCell hSg _
  have Hsm := Lib.hid hsm
  have q1 : Below B w w1 := hb1.mono (by omega)
  have q2 : Below B w1 W2 := hbb.mono (by omega)
  have q3 : Below B w W2.drew := (q1.trans q2).drew
  have hbl : Below B w w3 := q3.grown hg3 (by show B ≤ W2.heap.size; omega) (own_blk_ge HownD.out)
  have hbl2 := hbl.setCell (p := ⟨g, 0, none⟩) hB (.slice (some ⟨g3, 0, none⟩) (xs.length + 8) cap3)
  have Hwr := Lib.hid hwr
  have Hbl := Lib.hid hbl2
  clear hwr hbl hbl2 blk3 hsm hrowS
  go_wp2_with fail
  go_end0
  exact ⟨⟨_, rfl⟩, Hwr.out, Hsm.out, Hbl.out⟩


/-- A number that goes into so many bytes. -/
theorem wnum_any (S : Nat → Prop) (B g : Nat) (xs : List UInt8) (size : Nat) (n : Int) (w : World) (h : WrS 176 S B w g xs 0) (hS : ∀ b, S b → b < w.heap.size) (h1 : 1 ≤ size) (h8 : size ≤ 8) (hn0 : 0 ≤ n) (hN : n < 256 ^ size) (hN2 : n < 9223372036854775808) (hx : xs.length ≤ 1000000000) :
    Calls Tryz.prog 136 #[.pointer (some ⟨g, 0, none⟩), .int .i64 size, .int .i64 n] w fun e w' => (∃ v, e = .returned v) ∧ WrS 176 S B w' g (xs ++ be size n.toNat) 0 ∧ Same S w w' ∧ Below B w w' := by
  have hs : size = 1 ∨ size = 2 ∨ size = 3 ∨ size = 4 ∨ size = 5 ∨ size = 6 ∨ size = 7 ∨ size = 8 := by omega
  rcases hs with rfl | rfl | rfl | rfl | rfl | rfl | rfl | rfl
  · exact wnum_at1 S B g xs n w h hS hn0 (by simpa using hN) hx
  · exact wnum_at2 S B g xs n w h hS hn0 (by simpa using hN) hx
  · exact wnum_at3 S B g xs n w h hS hn0 (by simpa using hN) hx
  · exact wnum_at4 S B g xs n w h hS hn0 (by simpa using hN) hx
  · exact wnum_at5 S B g xs n w h hS hn0 (by simpa using hN) hx
  · exact wnum_at6 S B g xs n w h hS hn0 (by simpa using hN) hx
  · exact wnum_at7 S B g xs n w h hS hn0 (by simpa using hN) hx
  · exact wnum_at8 S B g xs n w h hS hn0 (by simpa using hN2) hx
end Go.Proofs.YtahagecdebadfaaGreat

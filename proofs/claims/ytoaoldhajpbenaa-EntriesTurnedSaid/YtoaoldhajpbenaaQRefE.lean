/- Texts that belong together, in one file: RefC, SliceB, RefD, RefE. No statement is proved here. -/
import Derived.Test.YtoaoldhajpbenaaQRefB
import Derived.Test.YtoaoldhajpbenaaQFldF
namespace Go.Proofs.Ytoaoldhajpbenaa
open Go.RowKit

/-- A byte more in a writer's row. -/
theorem wr_more {T : TypeId} {S : Nat → Prop} {B g : Nat} {w w1 : World} {v v' x : Value} {xs : List UInt8} {b : UInt8} (hx : x = .int .u8 b.toNat) (hT : 5 ≠ T) (hB : B ≤ g) (hSg : ¬ S g) (hS : ∀ b, S b → b < w.heap.size) (hvS : ∀ k, v.ownBlock = some k → ¬ S k) (hblk : w.heap[g]? = some (.cells #[v, .int .i64 0] T (0, 0)))
    (hown : w.ownsRow B 5 1 v xs.length (byteCells xs)) (hown1 : w1.ownsRow B 5 1 v' (xs.length + 1) (byteCells xs ++ [x])) (hg : (w.alloc (.cells #[x] 5)).grownBy w1 v.ownBlock) (hat : v'.ownBlock = v.ownBlock ∨ v'.ownBlock = some (w.heap.size + 1)) :
    w1.heap[g]? = some (.cells #[v, .int .i64 0] T (0, 0)) ∧ WrS T S B (w1.setCell ⟨g, 0, none⟩ v') g (xs ++ [b]) 0 ∧ Same S w (w1.setCell ⟨g, 0, none⟩ v') ∧ Below B w (w1.setCell ⟨g, 0, none⟩ v') := by
  subst hx
  have hgs := (Array.getElem?_eq_some_iff.1 hblk).1
  have hb0 : Below B w (w.alloc (.cells #[.int .u8 b.toNat] 5)) := (Below.refl B w).alloc (by omega) _
  have h1 := wr_grown (blk_alloc hblk _) hT (own_keep hown (box_below w (.cells #[.int .u8 b.toNat] 5))) hg
  refine ⟨h1, ⟨hB, hSg, v', blk_put h1 v', ?_, fun k hk hs => ?_⟩, ?_, ?_⟩
  · have e : (xs ++ [b]).length = xs.length + 1 := by simp
    rw [e, byteCells_append]
    exact own_put hown1 h1 hT v'
  · have hlt := hS k hs
    rcases hat with h | h
    · exact hvS k (h ▸ hk) hs
    · rw [hk] at h
      injection h with h
      omega
  · exact ((Same.of_below' (box_below w _) S).trans (same_grownO hg hvS)).setCell hSg _
  · exact (hb0.grown hg (by simp; omega) (own_blk_ge hown)).setCell hB _
theorem byte_cell (n : Nat) (i : Nat) : Value.int .u8 ((n : Int) / (256 ^ i : Nat) % 256) = .int .u8 (byteOf n i).toNat := by rw [byteOf_nat]

set_option maxRecDepth 100000 in
set_option maxHeartbeats 4000000 in
theorem rwnum_at1 (S : Nat → Prop) (B g : Nat) (xs : List UInt8) (n : Int) (w : World) (h : WrS 109 S B w g xs 0) (hS : ∀ b, S b → b < w.heap.size) (hn0 : 0 ≤ n) (hN : n < 256) (hx : xs.length ≤ 1000000000) :
    Calls Try.prog 70 #[.pointer (some ⟨g, 0, none⟩), .int .i64 1, .int .i64 n] w fun e w' => (∃ v, e = .returned v) ∧ WrS 109 S B w' g (xs ++ be 1 n.toNat) 0 ∧ Same S w w' ∧ Below B w w' := by
  obtain ⟨i0, hi, hz0, hz1, hz2⟩ := info_parts infoU8
  obtain ⟨N, hNn⟩ : ∃ N : Nat, (N : Int) = n := ⟨n.toNat, by omega⟩
  have hbe : n.toNat = N := by omega
  rw [hbe]
  have y0 : Value.int .u8 (n) = .int .u8 (byteOf N 0).toNat := by rw [byteOf_nat]; congr 1; subst hNn; first | rfl | (simp; done) | (simp; omega)
  have Y := Lib.hid ((⟨y0, trivial⟩ : Value.int .u8 (n) = .int .u8 (byteOf N 0).toNat ∧ True))
  have Hx := Lib.hid hx
  have HN := Lib.hid hNn
  clear hbe hNn hx y0
  have hb : Below B w w := Below.refl _ _
  have hsm : Same S w w := Same.refl _ _
  have HS := Lib.hid hS
  clear hS
  go_enter Try.func70, Try.ntmps70
  obtain ⟨hB, hSg, v0, hblk0, hown0, hvS⟩ := h
  have HvS0 := Lib.hid hvS
  clear hvS
  have hgs := (Array.getElem?_eq_some_iff.1 hblk0).1
  have Hown0 := Lib.hid hown0
  have Hblk0 := Lib.hid hblk0
  obtain ⟨c00, c01, f00, f01⟩ := cells2 hblk0
  clear hown0 hblk0
  go_wp2_with fail
  refine wp_loop_rounds 2 ?_
  rw [rounds_succ]
  go_wp2_with (at_builtin; refine wpList_append_own_at _ rfl _ _ 31 rfl B 5 i0 (.int .u8 0) 1 1 Try.underlying31 hi hz0 hz1 hz2 rfl (by decide) v0 _ _ rfl (own_keep Hown0.out (box_below _ (.cells #[.int .u8 (n)] 5))) ⟨w.heap.size, 0, none⟩ 1 1 [.int .u8 (n)] rfl rfl (cell_one _ _ _) (by simp [Value.oneCell']) ?h30 ?h40 ?h50 ?_)
  case h30 => have := Hx.out; simp [maxLen]; omega
  case h40 => have := Hx.out; simp; omega
  case h50 => simp; omega
  intro u0 w0 hown1 hgr _ hat
  have hSw : ∀ b, S b → b < w.heap.size := fun b hb0 => Nat.lt_of_lt_of_le (HS.out b hb0) hsm.size
  obtain ⟨hblk1, hwr, hsm1, hbl⟩ := wr_more Y.out.1 (by decide) hB hSg hSw HvS0.out Hblk0.out Hown0.out hown1 hgr hat
  obtain ⟨d0, d1, e0, e1⟩ := cells2 hblk1
  obtain ⟨A0, cc0, rfl⟩ := (RowAt.of_own hown1).slice
  have hb := hb.trans hbl
  have hsm := hsm.trans hsm1
  have Hwr := Lib.hid hwr
  clear hown1 hgr hblk1 hwr hbl hat hSw hsm1
  go_wp2_with fail
  rw [rounds_succ]
  go_wp2_with fail
  go_end0
  refine ⟨⟨_, rfl⟩, ?_, hsm, hb⟩
  have h := Hwr.out
  simpa [be] using h

set_option maxRecDepth 100000 in
set_option maxHeartbeats 4000000 in
theorem rwnum_at2 (S : Nat → Prop) (B g : Nat) (xs : List UInt8) (n : Int) (w : World) (h : WrS 109 S B w g xs 0) (hS : ∀ b, S b → b < w.heap.size) (hn0 : 0 ≤ n) (hN : n < 65536) (hx : xs.length ≤ 1000000000) :
    Calls Try.prog 70 #[.pointer (some ⟨g, 0, none⟩), .int .i64 2, .int .i64 n] w fun e w' => (∃ v, e = .returned v) ∧ WrS 109 S B w' g (xs ++ be 2 n.toNat) 0 ∧ Same S w w' ∧ Below B w w' := by
  obtain ⟨i0, hi, hz0, hz1, hz2⟩ := info_parts infoU8
  obtain ⟨N, hNn⟩ : ∃ N : Nat, (N : Int) = n := ⟨n.toNat, by omega⟩
  have hbe : n.toNat = N := by omega
  rw [hbe]
  have y0 : Value.int .u8 (n / 256) = .int .u8 (byteOf N 1).toNat := by rw [byteOf_nat]; congr 1; subst hNn; first | rfl | (simp; done) | (simp; omega)
  have y1 : Value.int .u8 (n % 256) = .int .u8 (byteOf N 0).toNat := by rw [byteOf_nat]; congr 1; subst hNn; first | rfl | (simp; done) | (simp; omega)
  have Y := Lib.hid ((⟨y0, y1, trivial⟩ : Value.int .u8 (n / 256) = .int .u8 (byteOf N 1).toNat ∧ Value.int .u8 (n % 256) = .int .u8 (byteOf N 0).toNat ∧ True))
  have Hx := Lib.hid hx
  have HN := Lib.hid hNn
  clear hbe hNn hx y0 y1
  have hb : Below B w w := Below.refl _ _
  have hsm : Same S w w := Same.refl _ _
  have HS := Lib.hid hS
  clear hS
  go_enter Try.func70, Try.ntmps70
  obtain ⟨hB, hSg, v0, hblk0, hown0, hvS⟩ := h
  have HvS0 := Lib.hid hvS
  clear hvS
  have hgs := (Array.getElem?_eq_some_iff.1 hblk0).1
  have Hown0 := Lib.hid hown0
  have Hblk0 := Lib.hid hblk0
  obtain ⟨c00, c01, f00, f01⟩ := cells2 hblk0
  clear hown0 hblk0
  go_wp2_with fail
  refine wp_loop_rounds 3 ?_
  rw [rounds_succ]
  go_wp2_with (at_builtin; refine wpList_append_own_at _ rfl _ _ 31 rfl B 5 i0 (.int .u8 0) 1 1 Try.underlying31 hi hz0 hz1 hz2 rfl (by decide) v0 _ _ rfl (own_keep Hown0.out (box_below _ (.cells #[.int .u8 (n / 256)] 5))) ⟨w.heap.size, 0, none⟩ 1 1 [.int .u8 (n / 256)] rfl rfl (cell_one _ _ _) (by simp [Value.oneCell']) ?h30 ?h40 ?h50 ?_)
  case h30 => have := Hx.out; simp [maxLen]; omega
  case h40 => have := Hx.out; simp; omega
  case h50 => simp; omega
  intro u0 w0 hown1 hgr _ hat
  have hSw : ∀ b, S b → b < w.heap.size := fun b hb0 => Nat.lt_of_lt_of_le (HS.out b hb0) hsm.size
  obtain ⟨hblk1, hwr, hsm1, hbl⟩ := wr_more Y.out.1 (by decide) hB hSg hSw HvS0.out Hblk0.out Hown0.out hown1 hgr hat
  obtain ⟨d0, d1, e0, e1⟩ := cells2 hblk1
  obtain ⟨A0, cc0, rfl⟩ := (RowAt.of_own hown1).slice
  have hb := hb.trans hbl
  have hsm := hsm.trans hsm1
  have Hwr := Lib.hid hwr
  clear hown1 hgr hblk1 hwr hbl hat hSw hsm1
  go_wp2_with fail
  obtain ⟨W1, hW⟩ : ∃ W, w0.setCell ⟨g, 0, none⟩ (.slice A0 (xs.length + 1) cc0) = W := ⟨_, rfl⟩
  rw [hW] at Hwr hb hsm ⊢
  obtain ⟨xs1, hxs⟩ : ∃ ys, ys = xs ++ [byteOf N 1] := ⟨_, rfl⟩
  rw [← hxs] at Hwr
  have Hxs1 := Lib.hid hxs
  clear d0 d1 e0 e1 hW hxs
  obtain ⟨-, -, v1, hblk, hown, hvS⟩ := Hwr.out
  have HvS1 := Lib.hid hvS
  clear hvS
  have hgs := (Array.getElem?_eq_some_iff.1 hblk).1
  have Hown1 := Lib.hid hown
  have Hblk1 := Lib.hid hblk
  obtain ⟨c10, c11, f10, f11⟩ := cells2 hblk
  clear hown hblk
  rw [rounds_succ]
  go_wp2_with (at_builtin; refine wpList_append_own_at _ rfl _ _ 31 rfl B 5 i0 (.int .u8 0) 1 1 Try.underlying31 hi hz0 hz1 hz2 rfl (by decide) v1 _ _ rfl (own_keep Hown1.out (box_below _ (.cells #[.int .u8 (n % 256)] 5))) ⟨W1.heap.size, 0, none⟩ 1 1 [.int .u8 (n % 256)] rfl rfl (cell_one _ _ _) (by simp [Value.oneCell']) ?h31 ?h41 ?h51 ?_)
  case h31 => have := Hx.out; have := congrArg List.length Hxs1.out; simp at this; simp [maxLen]; omega
  case h41 => have := Hx.out; have := congrArg List.length Hxs1.out; simp at this; simp; omega
  case h51 => simp; omega
  intro u1 w1 hown1 hgr _ hat
  have hSw : ∀ b, S b → b < W1.heap.size := fun b hb0 => Nat.lt_of_lt_of_le (HS.out b hb0) hsm.size
  obtain ⟨hblk1, hwr, hsm1, hbl⟩ := wr_more Y.out.2.1 (by decide) hB hSg hSw HvS1.out Hblk1.out Hown1.out hown1 hgr hat
  obtain ⟨d0, d1, e0, e1⟩ := cells2 hblk1
  obtain ⟨A1, cc1, rfl⟩ := (RowAt.of_own hown1).slice
  have hb := hb.trans hbl
  have hsm := hsm.trans hsm1
  have Hwr := Lib.hid hwr
  clear hown1 hgr hblk1 hwr hbl hat hSw hsm1
  go_wp2_with fail
  rw [rounds_succ]
  go_wp2_with fail
  go_end0
  refine ⟨⟨_, rfl⟩, ?_, hsm, hb⟩
  have h := Hwr.out
  simpa [be, Hxs1.out] using h

set_option maxRecDepth 100000 in
set_option maxHeartbeats 4000000 in
theorem rwnum_at4 (S : Nat → Prop) (B g : Nat) (xs : List UInt8) (n : Int) (w : World) (h : WrS 109 S B w g xs 0) (hS : ∀ b, S b → b < w.heap.size) (hn0 : 0 ≤ n) (hN : n < 4294967296) (hx : xs.length ≤ 1000000000) :
    Calls Try.prog 70 #[.pointer (some ⟨g, 0, none⟩), .int .i64 4, .int .i64 n] w fun e w' => (∃ v, e = .returned v) ∧ WrS 109 S B w' g (xs ++ be 4 n.toNat) 0 ∧ Same S w w' ∧ Below B w w' := by
  obtain ⟨i0, hi, hz0, hz1, hz2⟩ := info_parts infoU8
  obtain ⟨N, hNn⟩ : ∃ N : Nat, (N : Int) = n := ⟨n.toNat, by omega⟩
  have hbe : n.toNat = N := by omega
  rw [hbe]
  have y0 : Value.int .u8 (n / 16777216) = .int .u8 (byteOf N 3).toNat := by rw [byteOf_nat]; congr 1; subst hNn; first | rfl | (simp; done) | (simp; omega)
  have y1 : Value.int .u8 (n / 65536 % 256) = .int .u8 (byteOf N 2).toNat := by rw [byteOf_nat]; congr 1; subst hNn; first | rfl | (simp; done) | (simp; omega)
  have y2 : Value.int .u8 (n / 256 % 256) = .int .u8 (byteOf N 1).toNat := by rw [byteOf_nat]; congr 1; subst hNn; first | rfl | (simp; done) | (simp; omega)
  have y3 : Value.int .u8 (n % 256) = .int .u8 (byteOf N 0).toNat := by rw [byteOf_nat]; congr 1; subst hNn; first | rfl | (simp; done) | (simp; omega)
  have Y := Lib.hid ((⟨y0, y1, y2, y3, trivial⟩ : Value.int .u8 (n / 16777216) = .int .u8 (byteOf N 3).toNat ∧ Value.int .u8 (n / 65536 % 256) = .int .u8 (byteOf N 2).toNat ∧ Value.int .u8 (n / 256 % 256) = .int .u8 (byteOf N 1).toNat ∧ Value.int .u8 (n % 256) = .int .u8 (byteOf N 0).toNat ∧ True))
  have Hx := Lib.hid hx
  have HN := Lib.hid hNn
  clear hbe hNn hx y0 y1 y2 y3
  have hb : Below B w w := Below.refl _ _
  have hsm : Same S w w := Same.refl _ _
  have HS := Lib.hid hS
  clear hS
  go_enter Try.func70, Try.ntmps70
  obtain ⟨hB, hSg, v0, hblk0, hown0, hvS⟩ := h
  have HvS0 := Lib.hid hvS
  clear hvS
  have hgs := (Array.getElem?_eq_some_iff.1 hblk0).1
  have Hown0 := Lib.hid hown0
  have Hblk0 := Lib.hid hblk0
  obtain ⟨c00, c01, f00, f01⟩ := cells2 hblk0
  clear hown0 hblk0
  go_wp2_with fail
  refine wp_loop_rounds 5 ?_
  rw [rounds_succ]
  go_wp2_with (at_builtin; refine wpList_append_own_at _ rfl _ _ 31 rfl B 5 i0 (.int .u8 0) 1 1 Try.underlying31 hi hz0 hz1 hz2 rfl (by decide) v0 _ _ rfl (own_keep Hown0.out (box_below _ (.cells #[.int .u8 (n / 16777216)] 5))) ⟨w.heap.size, 0, none⟩ 1 1 [.int .u8 (n / 16777216)] rfl rfl (cell_one _ _ _) (by simp [Value.oneCell']) ?h30 ?h40 ?h50 ?_)
  case h30 => have := Hx.out; simp [maxLen]; omega
  case h40 => have := Hx.out; simp; omega
  case h50 => simp; omega
  intro u0 w0 hown1 hgr _ hat
  have hSw : ∀ b, S b → b < w.heap.size := fun b hb0 => Nat.lt_of_lt_of_le (HS.out b hb0) hsm.size
  obtain ⟨hblk1, hwr, hsm1, hbl⟩ := wr_more Y.out.1 (by decide) hB hSg hSw HvS0.out Hblk0.out Hown0.out hown1 hgr hat
  obtain ⟨d0, d1, e0, e1⟩ := cells2 hblk1
  obtain ⟨A0, cc0, rfl⟩ := (RowAt.of_own hown1).slice
  have hb := hb.trans hbl
  have hsm := hsm.trans hsm1
  have Hwr := Lib.hid hwr
  clear hown1 hgr hblk1 hwr hbl hat hSw hsm1
  go_wp2_with fail
  obtain ⟨W1, hW⟩ : ∃ W, w0.setCell ⟨g, 0, none⟩ (.slice A0 (xs.length + 1) cc0) = W := ⟨_, rfl⟩
  rw [hW] at Hwr hb hsm ⊢
  obtain ⟨xs1, hxs⟩ : ∃ ys, ys = xs ++ [byteOf N 3] := ⟨_, rfl⟩
  rw [← hxs] at Hwr
  have Hxs1 := Lib.hid hxs
  clear d0 d1 e0 e1 hW hxs
  obtain ⟨-, -, v1, hblk, hown, hvS⟩ := Hwr.out
  have HvS1 := Lib.hid hvS
  clear hvS
  have hgs := (Array.getElem?_eq_some_iff.1 hblk).1
  have Hown1 := Lib.hid hown
  have Hblk1 := Lib.hid hblk
  obtain ⟨c10, c11, f10, f11⟩ := cells2 hblk
  clear hown hblk
  rw [rounds_succ]
  go_wp2_with (at_builtin; refine wpList_append_own_at _ rfl _ _ 31 rfl B 5 i0 (.int .u8 0) 1 1 Try.underlying31 hi hz0 hz1 hz2 rfl (by decide) v1 _ _ rfl (own_keep Hown1.out (box_below _ (.cells #[.int .u8 (n / 65536 % 256)] 5))) ⟨W1.heap.size, 0, none⟩ 1 1 [.int .u8 (n / 65536 % 256)] rfl rfl (cell_one _ _ _) (by simp [Value.oneCell']) ?h31 ?h41 ?h51 ?_)
  case h31 => have := Hx.out; have := congrArg List.length Hxs1.out; simp at this; simp [maxLen]; omega
  case h41 => have := Hx.out; have := congrArg List.length Hxs1.out; simp at this; simp; omega
  case h51 => simp; omega
  intro u1 w1 hown1 hgr _ hat
  have hSw : ∀ b, S b → b < W1.heap.size := fun b hb0 => Nat.lt_of_lt_of_le (HS.out b hb0) hsm.size
  obtain ⟨hblk1, hwr, hsm1, hbl⟩ := wr_more Y.out.2.1 (by decide) hB hSg hSw HvS1.out Hblk1.out Hown1.out hown1 hgr hat
  obtain ⟨d0, d1, e0, e1⟩ := cells2 hblk1
  obtain ⟨A1, cc1, rfl⟩ := (RowAt.of_own hown1).slice
  have hb := hb.trans hbl
  have hsm := hsm.trans hsm1
  have Hwr := Lib.hid hwr
  clear hown1 hgr hblk1 hwr hbl hat hSw hsm1
  go_wp2_with fail
  obtain ⟨W2, hW⟩ : ∃ W, w1.setCell ⟨g, 0, none⟩ (.slice A1 (xs1.length + 1) cc1) = W := ⟨_, rfl⟩
  rw [hW] at Hwr hb hsm ⊢
  obtain ⟨xs2, hxs⟩ : ∃ ys, ys = xs1 ++ [byteOf N 2] := ⟨_, rfl⟩
  rw [← hxs] at Hwr
  have Hxs2 := Lib.hid hxs
  clear d0 d1 e0 e1 hW hxs
  obtain ⟨-, -, v2, hblk, hown, hvS⟩ := Hwr.out
  have HvS2 := Lib.hid hvS
  clear hvS
  have hgs := (Array.getElem?_eq_some_iff.1 hblk).1
  have Hown2 := Lib.hid hown
  have Hblk2 := Lib.hid hblk
  obtain ⟨c20, c21, f20, f21⟩ := cells2 hblk
  clear hown hblk
  rw [rounds_succ]
  go_wp2_with (at_builtin; refine wpList_append_own_at _ rfl _ _ 31 rfl B 5 i0 (.int .u8 0) 1 1 Try.underlying31 hi hz0 hz1 hz2 rfl (by decide) v2 _ _ rfl (own_keep Hown2.out (box_below _ (.cells #[.int .u8 (n / 256 % 256)] 5))) ⟨W2.heap.size, 0, none⟩ 1 1 [.int .u8 (n / 256 % 256)] rfl rfl (cell_one _ _ _) (by simp [Value.oneCell']) ?h32 ?h42 ?h52 ?_)
  case h32 => have := Hx.out; have := congrArg List.length Hxs1.out; simp at this; have := congrArg List.length Hxs2.out; simp at this; simp [maxLen]; omega
  case h42 => have := Hx.out; have := congrArg List.length Hxs1.out; simp at this; have := congrArg List.length Hxs2.out; simp at this; simp; omega
  case h52 => simp; omega
  intro u2 w2 hown1 hgr _ hat
  have hSw : ∀ b, S b → b < W2.heap.size := fun b hb0 => Nat.lt_of_lt_of_le (HS.out b hb0) hsm.size
  obtain ⟨hblk1, hwr, hsm1, hbl⟩ := wr_more Y.out.2.2.1 (by decide) hB hSg hSw HvS2.out Hblk2.out Hown2.out hown1 hgr hat
  obtain ⟨d0, d1, e0, e1⟩ := cells2 hblk1
  obtain ⟨A2, cc2, rfl⟩ := (RowAt.of_own hown1).slice
  have hb := hb.trans hbl
  have hsm := hsm.trans hsm1
  have Hwr := Lib.hid hwr
  clear hown1 hgr hblk1 hwr hbl hat hSw hsm1
  go_wp2_with fail
  obtain ⟨W3, hW⟩ : ∃ W, w2.setCell ⟨g, 0, none⟩ (.slice A2 (xs2.length + 1) cc2) = W := ⟨_, rfl⟩
  rw [hW] at Hwr hb hsm ⊢
  obtain ⟨xs3, hxs⟩ : ∃ ys, ys = xs2 ++ [byteOf N 1] := ⟨_, rfl⟩
  rw [← hxs] at Hwr
  have Hxs3 := Lib.hid hxs
  clear d0 d1 e0 e1 hW hxs
  obtain ⟨-, -, v3, hblk, hown, hvS⟩ := Hwr.out
  have HvS3 := Lib.hid hvS
  clear hvS
  have hgs := (Array.getElem?_eq_some_iff.1 hblk).1
  have Hown3 := Lib.hid hown
  have Hblk3 := Lib.hid hblk
  obtain ⟨c30, c31, f30, f31⟩ := cells2 hblk
  clear hown hblk
  rw [rounds_succ]
  go_wp2_with (at_builtin; refine wpList_append_own_at _ rfl _ _ 31 rfl B 5 i0 (.int .u8 0) 1 1 Try.underlying31 hi hz0 hz1 hz2 rfl (by decide) v3 _ _ rfl (own_keep Hown3.out (box_below _ (.cells #[.int .u8 (n % 256)] 5))) ⟨W3.heap.size, 0, none⟩ 1 1 [.int .u8 (n % 256)] rfl rfl (cell_one _ _ _) (by simp [Value.oneCell']) ?h33 ?h43 ?h53 ?_)
  case h33 => have := Hx.out; have := congrArg List.length Hxs1.out; simp at this; have := congrArg List.length Hxs2.out; simp at this; have := congrArg List.length Hxs3.out; simp at this; simp [maxLen]; omega
  case h43 => have := Hx.out; have := congrArg List.length Hxs1.out; simp at this; have := congrArg List.length Hxs2.out; simp at this; have := congrArg List.length Hxs3.out; simp at this; simp; omega
  case h53 => simp; omega
  intro u3 w3 hown1 hgr _ hat
  have hSw : ∀ b, S b → b < W3.heap.size := fun b hb0 => Nat.lt_of_lt_of_le (HS.out b hb0) hsm.size
  obtain ⟨hblk1, hwr, hsm1, hbl⟩ := wr_more Y.out.2.2.2.1 (by decide) hB hSg hSw HvS3.out Hblk3.out Hown3.out hown1 hgr hat
  obtain ⟨d0, d1, e0, e1⟩ := cells2 hblk1
  obtain ⟨A3, cc3, rfl⟩ := (RowAt.of_own hown1).slice
  have hb := hb.trans hbl
  have hsm := hsm.trans hsm1
  have Hwr := Lib.hid hwr
  clear hown1 hgr hblk1 hwr hbl hat hSw hsm1
  go_wp2_with fail
  rw [rounds_succ]
  go_wp2_with fail
  go_end0
  refine ⟨⟨_, rfl⟩, ?_, hsm, hb⟩
  have h := Hwr.out
  simpa [be, Hxs1.out, Hxs2.out, Hxs3.out] using h

set_option maxRecDepth 100000 in
set_option maxHeartbeats 4000000 in
theorem rwnum_at6 (S : Nat → Prop) (B g : Nat) (xs : List UInt8) (n : Int) (w : World) (h : WrS 109 S B w g xs 0) (hS : ∀ b, S b → b < w.heap.size) (hn0 : 0 ≤ n) (hN : n < 281474976710656) (hx : xs.length ≤ 1000000000) :
    Calls Try.prog 70 #[.pointer (some ⟨g, 0, none⟩), .int .i64 6, .int .i64 n] w fun e w' => (∃ v, e = .returned v) ∧ WrS 109 S B w' g (xs ++ be 6 n.toNat) 0 ∧ Same S w w' ∧ Below B w w' := by
  obtain ⟨i0, hi, hz0, hz1, hz2⟩ := info_parts infoU8
  obtain ⟨N, hNn⟩ : ∃ N : Nat, (N : Int) = n := ⟨n.toNat, by omega⟩
  have hbe : n.toNat = N := by omega
  rw [hbe]
  have y0 : Value.int .u8 (n / 1099511627776) = .int .u8 (byteOf N 5).toNat := by rw [byteOf_nat]; congr 1; subst hNn; first | rfl | (simp; done) | (simp; omega)
  have y1 : Value.int .u8 (n / 4294967296 % 256) = .int .u8 (byteOf N 4).toNat := by rw [byteOf_nat]; congr 1; subst hNn; first | rfl | (simp; done) | (simp; omega)
  have y2 : Value.int .u8 (n / 16777216 % 256) = .int .u8 (byteOf N 3).toNat := by rw [byteOf_nat]; congr 1; subst hNn; first | rfl | (simp; done) | (simp; omega)
  have y3 : Value.int .u8 (n / 65536 % 256) = .int .u8 (byteOf N 2).toNat := by rw [byteOf_nat]; congr 1; subst hNn; first | rfl | (simp; done) | (simp; omega)
  have y4 : Value.int .u8 (n / 256 % 256) = .int .u8 (byteOf N 1).toNat := by rw [byteOf_nat]; congr 1; subst hNn; first | rfl | (simp; done) | (simp; omega)
  have y5 : Value.int .u8 (n % 256) = .int .u8 (byteOf N 0).toNat := by rw [byteOf_nat]; congr 1; subst hNn; first | rfl | (simp; done) | (simp; omega)
  have Y := Lib.hid ((⟨y0, y1, y2, y3, y4, y5, trivial⟩ : Value.int .u8 (n / 1099511627776) = .int .u8 (byteOf N 5).toNat ∧ Value.int .u8 (n / 4294967296 % 256) = .int .u8 (byteOf N 4).toNat ∧ Value.int .u8 (n / 16777216 % 256) = .int .u8 (byteOf N 3).toNat ∧ Value.int .u8 (n / 65536 % 256) = .int .u8 (byteOf N 2).toNat ∧ Value.int .u8 (n / 256 % 256) = .int .u8 (byteOf N 1).toNat ∧ Value.int .u8 (n % 256) = .int .u8 (byteOf N 0).toNat ∧ True))
  have Hx := Lib.hid hx
  have HN := Lib.hid hNn
  clear hbe hNn hx y0 y1 y2 y3 y4 y5
  have hb : Below B w w := Below.refl _ _
  have hsm : Same S w w := Same.refl _ _
  have HS := Lib.hid hS
  clear hS
  go_enter Try.func70, Try.ntmps70
  obtain ⟨hB, hSg, v0, hblk0, hown0, hvS⟩ := h
  have HvS0 := Lib.hid hvS
  clear hvS
  have hgs := (Array.getElem?_eq_some_iff.1 hblk0).1
  have Hown0 := Lib.hid hown0
  have Hblk0 := Lib.hid hblk0
  obtain ⟨c00, c01, f00, f01⟩ := cells2 hblk0
  clear hown0 hblk0
  go_wp2_with fail
  refine wp_loop_rounds 7 ?_
  rw [rounds_succ]
  go_wp2_with (at_builtin; refine wpList_append_own_at _ rfl _ _ 31 rfl B 5 i0 (.int .u8 0) 1 1 Try.underlying31 hi hz0 hz1 hz2 rfl (by decide) v0 _ _ rfl (own_keep Hown0.out (box_below _ (.cells #[.int .u8 (n / 1099511627776)] 5))) ⟨w.heap.size, 0, none⟩ 1 1 [.int .u8 (n / 1099511627776)] rfl rfl (cell_one _ _ _) (by simp [Value.oneCell']) ?h30 ?h40 ?h50 ?_)
  case h30 => have := Hx.out; simp [maxLen]; omega
  case h40 => have := Hx.out; simp; omega
  case h50 => simp; omega
  intro u0 w0 hown1 hgr _ hat
  have hSw : ∀ b, S b → b < w.heap.size := fun b hb0 => Nat.lt_of_lt_of_le (HS.out b hb0) hsm.size
  obtain ⟨hblk1, hwr, hsm1, hbl⟩ := wr_more Y.out.1 (by decide) hB hSg hSw HvS0.out Hblk0.out Hown0.out hown1 hgr hat
  obtain ⟨d0, d1, e0, e1⟩ := cells2 hblk1
  obtain ⟨A0, cc0, rfl⟩ := (RowAt.of_own hown1).slice
  have hb := hb.trans hbl
  have hsm := hsm.trans hsm1
  have Hwr := Lib.hid hwr
  clear hown1 hgr hblk1 hwr hbl hat hSw hsm1
  go_wp2_with fail
  obtain ⟨W1, hW⟩ : ∃ W, w0.setCell ⟨g, 0, none⟩ (.slice A0 (xs.length + 1) cc0) = W := ⟨_, rfl⟩
  rw [hW] at Hwr hb hsm ⊢
  obtain ⟨xs1, hxs⟩ : ∃ ys, ys = xs ++ [byteOf N 5] := ⟨_, rfl⟩
  rw [← hxs] at Hwr
  have Hxs1 := Lib.hid hxs
  clear d0 d1 e0 e1 hW hxs
  obtain ⟨-, -, v1, hblk, hown, hvS⟩ := Hwr.out
  have HvS1 := Lib.hid hvS
  clear hvS
  have hgs := (Array.getElem?_eq_some_iff.1 hblk).1
  have Hown1 := Lib.hid hown
  have Hblk1 := Lib.hid hblk
  obtain ⟨c10, c11, f10, f11⟩ := cells2 hblk
  clear hown hblk
  rw [rounds_succ]
  go_wp2_with (at_builtin; refine wpList_append_own_at _ rfl _ _ 31 rfl B 5 i0 (.int .u8 0) 1 1 Try.underlying31 hi hz0 hz1 hz2 rfl (by decide) v1 _ _ rfl (own_keep Hown1.out (box_below _ (.cells #[.int .u8 (n / 4294967296 % 256)] 5))) ⟨W1.heap.size, 0, none⟩ 1 1 [.int .u8 (n / 4294967296 % 256)] rfl rfl (cell_one _ _ _) (by simp [Value.oneCell']) ?h31 ?h41 ?h51 ?_)
  case h31 => have := Hx.out; have := congrArg List.length Hxs1.out; simp at this; simp [maxLen]; omega
  case h41 => have := Hx.out; have := congrArg List.length Hxs1.out; simp at this; simp; omega
  case h51 => simp; omega
  intro u1 w1 hown1 hgr _ hat
  have hSw : ∀ b, S b → b < W1.heap.size := fun b hb0 => Nat.lt_of_lt_of_le (HS.out b hb0) hsm.size
  obtain ⟨hblk1, hwr, hsm1, hbl⟩ := wr_more Y.out.2.1 (by decide) hB hSg hSw HvS1.out Hblk1.out Hown1.out hown1 hgr hat
  obtain ⟨d0, d1, e0, e1⟩ := cells2 hblk1
  obtain ⟨A1, cc1, rfl⟩ := (RowAt.of_own hown1).slice
  have hb := hb.trans hbl
  have hsm := hsm.trans hsm1
  have Hwr := Lib.hid hwr
  clear hown1 hgr hblk1 hwr hbl hat hSw hsm1
  go_wp2_with fail
  obtain ⟨W2, hW⟩ : ∃ W, w1.setCell ⟨g, 0, none⟩ (.slice A1 (xs1.length + 1) cc1) = W := ⟨_, rfl⟩
  rw [hW] at Hwr hb hsm ⊢
  obtain ⟨xs2, hxs⟩ : ∃ ys, ys = xs1 ++ [byteOf N 4] := ⟨_, rfl⟩
  rw [← hxs] at Hwr
  have Hxs2 := Lib.hid hxs
  clear d0 d1 e0 e1 hW hxs
  obtain ⟨-, -, v2, hblk, hown, hvS⟩ := Hwr.out
  have HvS2 := Lib.hid hvS
  clear hvS
  have hgs := (Array.getElem?_eq_some_iff.1 hblk).1
  have Hown2 := Lib.hid hown
  have Hblk2 := Lib.hid hblk
  obtain ⟨c20, c21, f20, f21⟩ := cells2 hblk
  clear hown hblk
  rw [rounds_succ]
  go_wp2_with (at_builtin; refine wpList_append_own_at _ rfl _ _ 31 rfl B 5 i0 (.int .u8 0) 1 1 Try.underlying31 hi hz0 hz1 hz2 rfl (by decide) v2 _ _ rfl (own_keep Hown2.out (box_below _ (.cells #[.int .u8 (n / 16777216 % 256)] 5))) ⟨W2.heap.size, 0, none⟩ 1 1 [.int .u8 (n / 16777216 % 256)] rfl rfl (cell_one _ _ _) (by simp [Value.oneCell']) ?h32 ?h42 ?h52 ?_)
  case h32 => have := Hx.out; have := congrArg List.length Hxs1.out; simp at this; have := congrArg List.length Hxs2.out; simp at this; simp [maxLen]; omega
  case h42 => have := Hx.out; have := congrArg List.length Hxs1.out; simp at this; have := congrArg List.length Hxs2.out; simp at this; simp; omega
  case h52 => simp; omega
  intro u2 w2 hown1 hgr _ hat
  have hSw : ∀ b, S b → b < W2.heap.size := fun b hb0 => Nat.lt_of_lt_of_le (HS.out b hb0) hsm.size
  obtain ⟨hblk1, hwr, hsm1, hbl⟩ := wr_more Y.out.2.2.1 (by decide) hB hSg hSw HvS2.out Hblk2.out Hown2.out hown1 hgr hat
  obtain ⟨d0, d1, e0, e1⟩ := cells2 hblk1
  obtain ⟨A2, cc2, rfl⟩ := (RowAt.of_own hown1).slice
  have hb := hb.trans hbl
  have hsm := hsm.trans hsm1
  have Hwr := Lib.hid hwr
  clear hown1 hgr hblk1 hwr hbl hat hSw hsm1
  go_wp2_with fail
  obtain ⟨W3, hW⟩ : ∃ W, w2.setCell ⟨g, 0, none⟩ (.slice A2 (xs2.length + 1) cc2) = W := ⟨_, rfl⟩
  rw [hW] at Hwr hb hsm ⊢
  obtain ⟨xs3, hxs⟩ : ∃ ys, ys = xs2 ++ [byteOf N 3] := ⟨_, rfl⟩
  rw [← hxs] at Hwr
  have Hxs3 := Lib.hid hxs
  clear d0 d1 e0 e1 hW hxs
  obtain ⟨-, -, v3, hblk, hown, hvS⟩ := Hwr.out
  have HvS3 := Lib.hid hvS
  clear hvS
  have hgs := (Array.getElem?_eq_some_iff.1 hblk).1
  have Hown3 := Lib.hid hown
  have Hblk3 := Lib.hid hblk
  obtain ⟨c30, c31, f30, f31⟩ := cells2 hblk
  clear hown hblk
  rw [rounds_succ]
  go_wp2_with (at_builtin; refine wpList_append_own_at _ rfl _ _ 31 rfl B 5 i0 (.int .u8 0) 1 1 Try.underlying31 hi hz0 hz1 hz2 rfl (by decide) v3 _ _ rfl (own_keep Hown3.out (box_below _ (.cells #[.int .u8 (n / 65536 % 256)] 5))) ⟨W3.heap.size, 0, none⟩ 1 1 [.int .u8 (n / 65536 % 256)] rfl rfl (cell_one _ _ _) (by simp [Value.oneCell']) ?h33 ?h43 ?h53 ?_)
  case h33 => have := Hx.out; have := congrArg List.length Hxs1.out; simp at this; have := congrArg List.length Hxs2.out; simp at this; have := congrArg List.length Hxs3.out; simp at this; simp [maxLen]; omega
  case h43 => have := Hx.out; have := congrArg List.length Hxs1.out; simp at this; have := congrArg List.length Hxs2.out; simp at this; have := congrArg List.length Hxs3.out; simp at this; simp; omega
  case h53 => simp; omega
  intro u3 w3 hown1 hgr _ hat
  have hSw : ∀ b, S b → b < W3.heap.size := fun b hb0 => Nat.lt_of_lt_of_le (HS.out b hb0) hsm.size
  obtain ⟨hblk1, hwr, hsm1, hbl⟩ := wr_more Y.out.2.2.2.1 (by decide) hB hSg hSw HvS3.out Hblk3.out Hown3.out hown1 hgr hat
  obtain ⟨d0, d1, e0, e1⟩ := cells2 hblk1
  obtain ⟨A3, cc3, rfl⟩ := (RowAt.of_own hown1).slice
  have hb := hb.trans hbl
  have hsm := hsm.trans hsm1
  have Hwr := Lib.hid hwr
  clear hown1 hgr hblk1 hwr hbl hat hSw hsm1
  go_wp2_with fail
  obtain ⟨W4, hW⟩ : ∃ W, w3.setCell ⟨g, 0, none⟩ (.slice A3 (xs3.length + 1) cc3) = W := ⟨_, rfl⟩
  rw [hW] at Hwr hb hsm ⊢
  obtain ⟨xs4, hxs⟩ : ∃ ys, ys = xs3 ++ [byteOf N 2] := ⟨_, rfl⟩
  rw [← hxs] at Hwr
  have Hxs4 := Lib.hid hxs
  clear d0 d1 e0 e1 hW hxs
  obtain ⟨-, -, v4, hblk, hown, hvS⟩ := Hwr.out
  have HvS4 := Lib.hid hvS
  clear hvS
  have hgs := (Array.getElem?_eq_some_iff.1 hblk).1
  have Hown4 := Lib.hid hown
  have Hblk4 := Lib.hid hblk
  obtain ⟨c40, c41, f40, f41⟩ := cells2 hblk
  clear hown hblk
  rw [rounds_succ]
  go_wp2_with (at_builtin; refine wpList_append_own_at _ rfl _ _ 31 rfl B 5 i0 (.int .u8 0) 1 1 Try.underlying31 hi hz0 hz1 hz2 rfl (by decide) v4 _ _ rfl (own_keep Hown4.out (box_below _ (.cells #[.int .u8 (n / 256 % 256)] 5))) ⟨W4.heap.size, 0, none⟩ 1 1 [.int .u8 (n / 256 % 256)] rfl rfl (cell_one _ _ _) (by simp [Value.oneCell']) ?h34 ?h44 ?h54 ?_)
  case h34 => have := Hx.out; have := congrArg List.length Hxs1.out; simp at this; have := congrArg List.length Hxs2.out; simp at this; have := congrArg List.length Hxs3.out; simp at this; have := congrArg List.length Hxs4.out; simp at this; simp [maxLen]; omega
  case h44 => have := Hx.out; have := congrArg List.length Hxs1.out; simp at this; have := congrArg List.length Hxs2.out; simp at this; have := congrArg List.length Hxs3.out; simp at this; have := congrArg List.length Hxs4.out; simp at this; simp; omega
  case h54 => simp; omega
  intro u4 w4 hown1 hgr _ hat
  have hSw : ∀ b, S b → b < W4.heap.size := fun b hb0 => Nat.lt_of_lt_of_le (HS.out b hb0) hsm.size
  obtain ⟨hblk1, hwr, hsm1, hbl⟩ := wr_more Y.out.2.2.2.2.1 (by decide) hB hSg hSw HvS4.out Hblk4.out Hown4.out hown1 hgr hat
  obtain ⟨d0, d1, e0, e1⟩ := cells2 hblk1
  obtain ⟨A4, cc4, rfl⟩ := (RowAt.of_own hown1).slice
  have hb := hb.trans hbl
  have hsm := hsm.trans hsm1
  have Hwr := Lib.hid hwr
  clear hown1 hgr hblk1 hwr hbl hat hSw hsm1
  go_wp2_with fail
  obtain ⟨W5, hW⟩ : ∃ W, w4.setCell ⟨g, 0, none⟩ (.slice A4 (xs4.length + 1) cc4) = W := ⟨_, rfl⟩
  rw [hW] at Hwr hb hsm ⊢
  obtain ⟨xs5, hxs⟩ : ∃ ys, ys = xs4 ++ [byteOf N 1] := ⟨_, rfl⟩
  rw [← hxs] at Hwr
  have Hxs5 := Lib.hid hxs
  clear d0 d1 e0 e1 hW hxs
  obtain ⟨-, -, v5, hblk, hown, hvS⟩ := Hwr.out
  have HvS5 := Lib.hid hvS
  clear hvS
  have hgs := (Array.getElem?_eq_some_iff.1 hblk).1
  have Hown5 := Lib.hid hown
  have Hblk5 := Lib.hid hblk
  obtain ⟨c50, c51, f50, f51⟩ := cells2 hblk
  clear hown hblk
  rw [rounds_succ]
  go_wp2_with (at_builtin; refine wpList_append_own_at _ rfl _ _ 31 rfl B 5 i0 (.int .u8 0) 1 1 Try.underlying31 hi hz0 hz1 hz2 rfl (by decide) v5 _ _ rfl (own_keep Hown5.out (box_below _ (.cells #[.int .u8 (n % 256)] 5))) ⟨W5.heap.size, 0, none⟩ 1 1 [.int .u8 (n % 256)] rfl rfl (cell_one _ _ _) (by simp [Value.oneCell']) ?h35 ?h45 ?h55 ?_)
  case h35 => have := Hx.out; have := congrArg List.length Hxs1.out; simp at this; have := congrArg List.length Hxs2.out; simp at this; have := congrArg List.length Hxs3.out; simp at this; have := congrArg List.length Hxs4.out; simp at this; have := congrArg List.length Hxs5.out; simp at this; simp [maxLen]; omega
  case h45 => have := Hx.out; have := congrArg List.length Hxs1.out; simp at this; have := congrArg List.length Hxs2.out; simp at this; have := congrArg List.length Hxs3.out; simp at this; have := congrArg List.length Hxs4.out; simp at this; have := congrArg List.length Hxs5.out; simp at this; simp; omega
  case h55 => simp; omega
  intro u5 w5 hown1 hgr _ hat
  have hSw : ∀ b, S b → b < W5.heap.size := fun b hb0 => Nat.lt_of_lt_of_le (HS.out b hb0) hsm.size
  obtain ⟨hblk1, hwr, hsm1, hbl⟩ := wr_more Y.out.2.2.2.2.2.1 (by decide) hB hSg hSw HvS5.out Hblk5.out Hown5.out hown1 hgr hat
  obtain ⟨d0, d1, e0, e1⟩ := cells2 hblk1
  obtain ⟨A5, cc5, rfl⟩ := (RowAt.of_own hown1).slice
  have hb := hb.trans hbl
  have hsm := hsm.trans hsm1
  have Hwr := Lib.hid hwr
  clear hown1 hgr hblk1 hwr hbl hat hSw hsm1
  go_wp2_with fail
  rw [rounds_succ]
  go_wp2_with fail
  go_end0
  refine ⟨⟨_, rfl⟩, ?_, hsm, hb⟩
  have h := Hwr.out
  simpa [be, Hxs1.out, Hxs2.out, Hxs3.out, Hxs4.out, Hxs5.out] using h
end Go.Proofs.Ytoaoldhajpbenaa

namespace Go.Proofs.Ytoaoldhajpbenaa
open Go.RowKit

theorem sizeU8 (w : World) : (Go.sizeOf 5).run Try.prog w = .ok 1 w := by
  obtain ⟨i0, hi, hz0, hz1, hz2⟩ := info_parts infoU8
  simp [Go.sizeOf, typeInfo, hi, hz1]
theorem elemBytes : Try.prog.elem 31 = 5 := by kernel_rfl

theorem bytes_sliced {S : Nat → Prop} {w : World} {a : Option Addr} {n c : Nat} {xs : List UInt8} (h : Bytes S w (.slice a n c) xs) (l k m : Nat) (h1 : l ≤ k) (h2 : k ≤ n) (h3 : k ≤ m) (h4 : m ≤ c) :
    Bytes S w (sliced a l k m 1) ((xs.take k).drop l) := by
  have hn : n = xs.length := by obtain ⟨A, c1, e⟩ := h.slice; injection e
  subst hn
  have hl : ((xs.take k).drop l).length = k - l := by simp; omega
  unfold sliced
  rcases h.2 with ⟨h0, hv | ⟨a', c', hv⟩⟩ | ⟨b, o, c', hv, hn, hc, hS, hb, hcell⟩
  · injection hv with e1 e2 e3
    subst e1 e3
    have hm : m = 0 := by omega
    subst hm
    have e0 : l = 0 := by omega
    have e5 : k = 0 := by omega
    subst e0 e5
    exact ⟨by simp [byteCells], .inl ⟨by simp, .inl (by simp)⟩⟩
  · injection hv with e1 e2 e3
    subst e1
    refine ⟨by simp [byteCells_length], .inl ⟨by omega, .inr ⟨if m = l then a' else a'.add (l * 1), m - l, ?_⟩⟩⟩
    have : k - l = 0 := by omega
    rw [this]
    split <;> rfl
  · injection hv with e1 e2 e3
    subst e1 e3
    by_cases hkl : k = l
    · subst hkl
      refine ⟨by simp [byteCells_length], .inl ⟨by omega, .inr ⟨if m = k then ⟨b, o, none⟩ else (⟨b, o, none⟩ : Addr).add (k * 1), m - k, ?_⟩⟩⟩
      rw [Nat.sub_self]
      split <;> rfl
    · have hml : m ≠ l := by omega
      rw [if_neg hml]
      refine ⟨by simp [byteCells_length], .inr ⟨b, o + l, m - l, ?_, by omega, by unfold maxLen at *; omega, hS, hb, fun i u hu => ?_⟩⟩
      · rw [hl]
        simp [add_plain]
      · have e : byteCells ((xs.take k).drop l) = ((byteCells xs).take k).drop l := by simp [byteCells]
        rw [e, List.getElem?_drop, List.getElem?_take] at hu
        split at hu
        · have := hcell _ _ hu
          rwa [← Nat.add_assoc] at this
        · cases hu

/-- A piece from l to k. -/
theorem bytes_lh {S : Nat → Prop} {w : World} {v : Value} {xs : List UInt8} (h : Bytes S w v xs) (l k : Int) (h0 : 0 ≤ l) (h1 : l ≤ k) (h2 : k ≤ xs.length) :
    ∃ a n c, Bytes S w (.slice a n c) ((xs.take k.toNat).drop l.toNat) ∧ n = k.toNat - l.toNat ∧ ∀ w0 kl kh, (Instr.sliceAt 31 v (some (.int kl l)) (some (.int kh k)) none).run Try.prog w0 = .ok (.slice a n c) w0 := by
  obtain ⟨A, c, rfl⟩ := h.slice
  have hc : xs.length ≤ c := by
    rcases h.2 with ⟨h0, hv | ⟨a', c', hv⟩⟩ | ⟨b, o, c', hv, hn, hc, hS, hb, hcell⟩
    · omega
    · omega
    · injection hv with e1 e2 e3
      omega
  refine ⟨_, _, _, bytes_sliced h l.toNat k.toNat c (by omega) (by omega) (by omega) (by omega), rfl, fun w0 kl kh => ?_⟩
  have ht : Try.prog.underlying 31 = some (.slice (Try.prog.elem 31)) := by rw [elemBytes]; exact Try.underlying31
  rw [run_sliceAt_slice _ _ _ _ _ _ ht, run_slice_lh _ _ _ _ _ ht kl kh l k h0 h1 (by omega), elemBytes, sizeU8]
  rfl
/-- A piece from l on. -/
theorem bytes_l {S : Nat → Prop} {w : World} {v : Value} {xs : List UInt8} (h : Bytes S w v xs) (l : Int) (h0 : 0 ≤ l) (h2 : l ≤ xs.length) :
    ∃ a n c, Bytes S w (.slice a n c) (xs.drop l.toNat) ∧ n = xs.length - l.toNat ∧ ∀ w0 kl, (Instr.sliceAt 31 v (some (.int kl l)) none none).run Try.prog w0 = .ok (.slice a n c) w0 := by
  obtain ⟨A, c, rfl⟩ := h.slice
  have hc : xs.length ≤ c := by
    rcases h.2 with ⟨h0, hv | ⟨a', c', hv⟩⟩ | ⟨b, o, c', hv, hn, hc, hS, hb, hcell⟩
    · omega
    · omega
    · injection hv with e1 e2 e3
      omega
  have hs := bytes_sliced h l.toNat xs.length c (by omega) (by omega) (by omega) (by omega)
  rw [List.take_length] at hs
  refine ⟨_, _, _, hs, rfl, fun w0 kl => ?_⟩
  have ht : Try.prog.underlying 31 = some (.slice (Try.prog.elem 31)) := by rw [elemBytes]; exact Try.underlying31
  rw [run_sliceAt_slice _ _ _ _ _ _ ht, run_slice_l _ _ _ _ _ ht kl l h0 h2, elemBytes, sizeU8]
  rfl
end Go.Proofs.Ytoaoldhajpbenaa

namespace Go.Proofs.Ytoaoldhajpbenaa
open Go.RowKit

theorem rwbytes_of {S1 : Nat → Prop} (S : Nat → Prop) (B g : Nat) (xs p : List UInt8) (size : Int) (y : Value) (w : World) (h : WrS 109 S B w g xs 0) (hS : ∀ b, S b → b < w.heap.size) (hp : Bytes S1 w y p) (ys : List UInt8)
    (hadd : ∀ v, Bytes (B ≤ ·) w v xs → Calls Try.prog 95 #[v, .int .i64 size, y] w fun e w' => ∃ u, e = .returned (.tuple #[u, .int .i64 0]) ∧ w'.ownsRow w.heap.size 5 1 u ys.length (byteCells ys) ∧ Below w.heap.size w w') :
    Calls Try.prog 71 #[.pointer (some ⟨g, 0, none⟩), .int .i64 size, y] w fun e w' => (∃ v, e = .returned v) ∧ WrS 109 S B w' g ys 0 ∧ Same S w w' ∧ Below B w w' := by
  obtain ⟨hB, hSg, v, hblk, hown, hvS⟩ := h
  have HS := Lib.hid hS
  clear hS hvS
  obtain ⟨c0, c1, f0, f1⟩ := cells2 hblk
  have hgs := block_lt c0
  have Hblk := Lib.hid hblk
  have hr := RowAt.of_own hown
  obtain ⟨A, c, rfl⟩ := hr.slice
  have Hadd := Lib.hid (hadd _ hr)
  obtain ⟨A2, c2, rfl⟩ := hp.slice
  clear hblk hown hr hadd hp
  go_enter Try.func71, Try.ntmps71
  go_wp2_with fail
  refine Hadd.out.mono ?_
  rintro _ w1 ⟨u, rfl, hown1, hb1⟩
  have hblk1 := blk_keep hb1 Hblk.out
  obtain ⟨d0, d1, e0, e1⟩ := cells2 hblk1
  obtain ⟨A3, c3, rfl⟩ := (RowAt.of_own hown1).slice
  have Hblk1 := Lib.hid hblk1
  have Hown1 := Lib.hid hown1
  clear hblk1 hown1
  go_wp2_with fail
  go_end0
  refine ⟨⟨_, rfl⟩, ⟨hB, hSg, _, blk_put Hblk1.out _, own_lower (own_far Hown1.out hgs _) (by omega), fun k hk hs => ?_⟩, (Same.of_below' hb1 S).setCell hSg _, (hb1.mono (by omega)).setCell hB _⟩
  have := own_blk_ge Hown1.out k hk
  have := HS.out k hs
  omega

theorem rwbytes_at2 {S1 : Nat → Prop} (S : Nat → Prop) (B g : Nat) (xs p : List UInt8) (y : Value) (w : World) (h : WrS 109 S B w g xs 0) (hS : ∀ b, S b → b < w.heap.size) (hp : Bytes S1 w y p) (hx : xs.length ≤ 100000000) (hl : p.length < 65536) :
    Calls Try.prog 71 #[.pointer (some ⟨g, 0, none⟩), .int .i64 2, y] w fun e w' => (∃ v, e = .returned v) ∧ WrS 109 S B w' g (xs ++ be 2 p.length ++ p) 0 ∧ Same S w w' ∧ Below B w w' := by
  refine rwbytes_of S B g xs p 2 y w h hS hp _ fun v hv => ?_
  obtain ⟨A, c, rfl⟩ := hv.slice
  obtain ⟨A2, c2, rfl⟩ := hp.slice
  exact radd_at2 A A2 xs.length p.length c c2 xs p w hv hp rfl rfl hx hl (by omega)
theorem rwbytes_at4 {S1 : Nat → Prop} (S : Nat → Prop) (B g : Nat) (xs p : List UInt8) (y : Value) (w : World) (h : WrS 109 S B w g xs 0) (hS : ∀ b, S b → b < w.heap.size) (hp : Bytes S1 w y p) (hx : xs.length ≤ 100000000) (hl : p.length ≤ 65536) :
    Calls Try.prog 71 #[.pointer (some ⟨g, 0, none⟩), .int .i64 4, y] w fun e w' => (∃ v, e = .returned v) ∧ WrS 109 S B w' g (xs ++ be 4 p.length ++ p) 0 ∧ Same S w w' ∧ Below B w w' := by
  refine rwbytes_of S B g xs p 4 y w h hS hp _ fun v hv => ?_
  obtain ⟨A, c, rfl⟩ := hv.slice
  obtain ⟨A2, c2, rfl⟩ := hp.slice
  exact radd_at4 A A2 xs.length p.length c c2 xs p w hv hp rfl rfl hx (by omega) hl

set_option maxRecDepth 100000 in
set_option maxHeartbeats 1000000 in
theorem rwend_ok (B g : Nat) (xs : List UInt8) (w : World) (h : WrAt 109 B w g xs 0) (hx : xs.length ≤ 1000000000) :
    Calls Try.prog 56 #[.pointer (some ⟨g, 0, none⟩)] w fun e w' => ∃ v, e = .returned (.tuple #[v, .int .i64 0]) ∧ w'.ownsRow w.heap.size 5 1 v xs.length (byteCells xs) ∧ Below w.heap.size w w' := by
  obtain ⟨hB, v, hblk, hown⟩ := h
  obtain ⟨c0, c1, f0, f1⟩ := cells2 hblk
  have hby : Bytes (B ≤ ·) w v xs := RowAt.of_own hown
  obtain ⟨A, c, rfl⟩ := hby.slice
  have Hby := Lib.hid hby
  have Hx := Lib.hid hx
  clear hown hby hblk hx
  go_enter Try.func56, Try.ntmps56
  go_wp2_with (at_builtin; refine wpList_append_bytes _ rfl _ _ rfl _ _ rfl rfl w.heap.size 0 [] (World.ownsRow_nil _ _ _ _) xs Hby.out ?h7 ?hB ?_)
  case h7 => have := Hx.out; omega
  case hB => exact Nat.le_refl _
  intro v1 w1 hown hgr _
  have hb := (Below.refl w.heap.size w).grown hgr (Nat.le_refl _) (by intro k hk; simp [Value.ownBlock] at hk)
  obtain ⟨A', c', rfl⟩ := (RowAt.of_own hown).slice
  have Hown := Lib.hid hown
  clear hown hgr
  go_wp2_with fail
  go_ret2
  exact ⟨_, rfl, by simpa using Hown.out, hb⟩

set_option maxRecDepth 100000 in
set_option maxHeartbeats 4000000 in
/-- A piece, and what stands behind it. -/
theorem rcut_any (S : Nat → Prop) (v : Value) (xs : List UInt8) (size : Nat) (w : World) (hv : Bytes S w v xs) (hs : size = 1 ∨ size = 2 ∨ size = 4) (h47 : xs.length ≤ 140737488355328) :
    Calls Try.prog 100 #[v, .int .i64 size] w fun e w' => ∃ u r, e = .returned (.tuple #[u, r, .int .i64 (cutOf size xs).2.2]) ∧ w'.ownsRow w.heap.size 5 1 u (cutOf size xs).1.length (byteCells (cutOf size xs).1) ∧
      ((cutOf size xs).2.2 = 0 → w'.ownsRow w.heap.size 5 1 r (xs.drop (cutOf size xs).2.1).length (byteCells (xs.drop (cutOf size xs).2.1))) ∧ ((cutOf size xs).2.2 ≠ 0 → r = .slice none 0 0) ∧ Below w.heap.size w w' := by
  have hle := hv.le
  unfold maxLen at hle
  have b1 : ((size : Int) != 1 && ((size : Int) != 2) && ((size : Int) != 4)) = false := by rcases hs with rfl | rfl | rfl <;> rfl
  by_cases c1 : xs.length < size
  · obtain ⟨A, c, rfl⟩ := hv.slice
    have e : cutOf size xs = ([], 0, 10) := by simp [cutOf, c1]
    rw [e]
    have c1' : (xs.length : Int) < size := by omega
    clear e
    rcases hs with rfl | rfl | rfl
    all_goals
      go_enter Try.func100, Try.ntmps100
      go_wp2_with fail
      go_ret3
      exact ⟨_, _, rfl, World.ownsRow_nil _ _ _ _, (fun h => absurd h (by decide)), (fun _ => rfl), Below.refl _ _⟩
  · have hg := rget_yes v xs 0 size w hv (by omega) (by omega) (by omega)
    rw [List.drop_zero] at hg
    have Hg := Lib.hid hg
    have Hv := Lib.hid hv
    obtain ⟨b, o, c, rfl, hn, hc, -, hb, hcell⟩ := hv.form (by omega)
    have ecut : cutOf size xs = if beVal (xs.take size) > 65536 then ([], 0, 3) else if xs.length - size < beVal (xs.take size) then ([], 0, 10)
      else ((xs.drop size).take (beVal (xs.take size)), size + beVal (xs.take size), 0) := by unfold cutOf; rw [if_neg c1]
    rw [ecut]
    have hbl := beVal_lt (xs.take size)
    have hkk : (xs.take size).length = size := by simp; omega
    rw [hkk] at hbl
    have hpw : 256 ^ size ≤ 256 ^ 7 := Nat.pow_le_pow_right (by omega) (by omega)
    have hm : beVal (xs.take size) < 72057594037927936 := Nat.lt_of_lt_of_le hbl hpw
    unfold maxLen at hc
    clear hg hbl hkk hpw hcell ecut hv
    generalize beVal (xs.take size) = m at *
    obtain ⟨M, hM⟩ : ∃ M : Int, M = m := ⟨_, rfl⟩
    rw [← hM] at Hg
    obtain ⟨L, hL⟩ : ∃ L : Nat, xs.length = L := ⟨_, rfl⟩
    rw [hL] at c1 h47 hle hn Hg Hv ⊢
    have s1 : 1 ≤ (size : Int) := by omega
    have s8 : (size : Int) ≤ 4 := by omega
    have s9 : (size : Int) ≤ L := by omega
    have s10 : (size : Int) ≤ c := by omega
    have s11 : (L : Int) ≤ c := by omega
    have s12 : (L : Int) ≤ 140737488355328 := by omega
    have m1 : 0 ≤ M := by omega
    have m2 : M < 72057594037927936 := by omega
    by_cases c2 : m > 65536
    · rw [if_pos c2]
      have c2' : 65536 < M := by omega
      have HM := Lib.hid hM
      clear hM hm hL
      rcases hs with rfl | rfl | rfl
      all_goals
        go_enter Try.func100, Try.ntmps100
        go_wp2_with (go_at_call 77; refine Hg.out.mono ?_; rintro _ _ ⟨rfl, rfl⟩)
        go_ret3
        exact ⟨_, _, rfl, World.ownsRow_nil _ _ _ _, (fun h => absurd h (by decide)), (fun _ => rfl), Below.refl _ _⟩
    · rw [if_neg c2]
      have c2' : M ≤ 65536 := by omega
      by_cases c3 : L - size < m
      · rw [if_pos c3]
        have c3' : (L : Int) - size < M := by omega
        have HM := Lib.hid hM
        clear hM hm hL
        rcases hs with rfl | rfl | rfl
        all_goals
          go_enter Try.func100, Try.ntmps100
          go_wp2_with (go_at_call 77; refine Hg.out.mono ?_; rintro _ _ ⟨rfl, rfl⟩)
          go_ret3
          exact ⟨_, _, rfl, World.ownsRow_nil _ _ _ _, (fun h => absurd h (by decide)), (fun _ => rfl), Below.refl _ _⟩
      · rw [if_neg c3]
        have c3' : ¬ ((L : Int) - size < M) := by omega
        have c4 : (size : Int) + M ≤ L := by omega
        have c5 : (size : Int) + M ≤ c := by omega
        obtain ⟨p, hp⟩ : ∃ p, p = (xs.drop size).take m := ⟨_, rfl⟩
        obtain ⟨r, hr⟩ : ∃ r, r = xs.drop (size + m) := ⟨_, rfl⟩
        rw [← hp]
        show Calls _ _ _ _ fun e w' => ∃ u r', _ ∧ _ ∧ (_ → w'.ownsRow w.heap.size 5 1 r' (xs.drop (size + m)).length (byteCells (xs.drop (size + m)))) ∧ _ ∧ _
        rw [← hr]
        obtain ⟨a1, n1, k1, hb1, hn1, hr1⟩ := bytes_lh Hv.out (size : Int) ((size : Int) + M) (by omega) (by omega) (by rw [hL]; omega)
        obtain ⟨a2, n2, k2, hb2, hn2, hr2⟩ := bytes_l Hv.out ((size : Int) + M) (by omega) (by rw [hL]; omega)
        have e1 : (xs.take ((size : Int) + M).toNat).drop (size : Int).toNat = p := by
          rw [hp, show ((size : Int) + M).toNat = size + m by omega, show (size : Int).toNat = size by omega, List.drop_take, Nat.add_sub_cancel_left]
        have e2 : xs.drop ((size : Int) + M).toNat = r := by rw [hr, show ((size : Int) + M).toNat = size + m by omega]
        rw [e1] at hb1
        rw [e2] at hb2
        have r1 := fun w0 => hr1 w0 .i64 .i64
        have r2 := fun w0 => hr2 w0 .i64
        have l1 : 0 + p.length ≤ 140737488355328 := by rw [hp]; simp; omega
        have l2 : 0 + r.length ≤ 140737488355328 := by rw [hr]; simp; omega
        have HL := Lib.hid (And.intro l1 l2)
        have Hb1 := Lib.hid hb1
        have Hb2 := Lib.hid hb2
        have hg : (((size : Int) != 1) = false ∧ True) ∨ (((size : Int) != 1) = true ∧ ((size : Int) != 2) = false ∧ True) ∨ (((size : Int) != 1) = true ∧ ((size : Int) != 2) = true ∧ ((size : Int) != 4) = false) := by
          rcases hs with rfl | rfl | rfl <;> decide
        clear hs b1 hM hm hL hp hr e1 e2 hb1 hb2 hr1 hr2 hn1 hn2 l1 l2 c2 c3
        rcases hg with ⟨g1, -⟩ | ⟨g1, g2, -⟩ | ⟨g1, g2, g3⟩
        all_goals
          go_enter Try.func100, Try.ntmps100
          go_wp2_with (first | (go_at_call 77; refine Hg.out.mono ?_; rintro _ _ ⟨rfl, rfl⟩) | (at_builtin; refine wpList_append_bytes (S := S) _ rfl _ _ rfl _ _ rfl rfl w.heap.size 0 [] (World.ownsRow_nil _ _ _ _) p Hb1.out HL.out.1 (Nat.le_refl _) ?_; intro u1 w1 hown hgr _; have hb := (Below.refl w.heap.size w).grown hgr (Nat.le_refl _) (own_blk_ge (World.ownsRow_nil w w.heap.size 5 1)); have Hown := Lib.hid hown; clear hown hgr; obtain ⟨A1, c1', rfl⟩ := (RowAt.of_own Hown.out).slice) | (at_builtin; refine wpList_append_bytes (S := S) _ rfl _ _ rfl _ _ rfl rfl w.heap.size 0 [] (World.ownsRow_nil _ _ _ _) r (Hb2.out.keep hb) HL.out.2 hb.size ?_; intro u2 w2 hown2 hgr2 _; have hb2 := hb.grown hgr2 hb.size (own_blk_ge (World.ownsRow_nil w1 w.heap.size 5 1)); have Hown1 := own_keep Hown.out (below_of_grown hgr2); have Hown2 := Lib.hid hown2; have Hown1 := Lib.hid Hown1; clear hown2 hgr2; obtain ⟨A2, c2', rfl⟩ := (RowAt.of_own Hown2.out).slice))
          go_ret3
          exact ⟨_, _, rfl, by simpa using Hown1.out, fun _ => by simpa using Hown2.out, (fun h => absurd rfl h), hb2⟩
end Go.Proofs.Ytoaoldhajpbenaa

namespace Go.Proofs.Ytoaoldhajpbenaa
open Go.RowKit

theorem rof_any (S : Nat → Prop) (v : Value) (xs : List UInt8) (w : World) (hv : Bytes S w v xs) (h47 : xs.length ≤ 140737488355328) :
    Calls Try.prog 60 #[v] w fun e w' => ∃ g, e = .returned (.pointer (some ⟨g, 0, none⟩)) ∧ w.heap.size ≤ g ∧ RdAt 133 (fun b => w.heap.size ≤ b ∧ b ≠ g) w' g xs 0 ∧ Below w.heap.size w w' := by
  have Hv := Lib.hid (hv.keep (box_below w (.cells #[.slice none 0 0, .int .i64 0] 133)))
  have hblk := blk_new w (.cells #[.slice none 0 0, .int .i64 0] 133)
  have Hblk := Lib.hid hblk
  have HL := Lib.hid h47
  obtain ⟨A, c, rfl⟩ := hv.slice
  clear hv h47 hblk
  go_enter Try.func60, Try.ntmps60
  go_wp2_with (at_builtin; refine wpList_append_bytes _ rfl _ _ rfl _ _ rfl rfl (w.heap.size + 1) 0 [] (World.ownsRow_nil _ _ _ _) xs Hv.out (by have := HL.out; omega) (by simp) ?_; intro v1 w1 hown hgr _; have hb := (box_below w (.cells #[.slice none 0 0, .int .i64 0] 133)).grown hgr (by simp) (own_blk_ge (World.ownsRow_nil w w.heap.size 5 1)); have hblk1 := blk_keep (below_of_grown hgr) Hblk.out; obtain ⟨d0, d1, e0, e1⟩ := cells2 hblk1; have Hblk1 := Lib.hid hblk1; have Hown := Lib.hid hown; clear hown hgr hblk1; obtain ⟨A1, c1', rfl⟩ := (RowAt.of_own Hown.out).slice)
  go_ret
  refine ⟨w.heap.size, rfl, Nat.le_refl _, ⟨by simp, _, blk_put Hblk1.out _, ?_⟩, hb.setCell (by simp) _⟩
  have h := Hown.out
  rw [Nat.zero_add, List.nil_append] at h
  have h2 : Bytes (fun b => w.heap.size ≤ b ∧ b ≠ w.heap.size) w1 _ xs := RowAt.mono (RowAt.of_own h) fun b hlt hb => ⟨by omega, by omega⟩
  have h3 := h2.keepS ((Same.refl _ w1).setCell (p := ⟨w.heap.size, 0, none⟩) (by simp) (.slice A1 (0 + xs.length) c1'))
  simpa using h3

theorem rrnum_err (S : Nat → Prop) (g : Nat) (xs : List UInt8) (er : Int) (size : Int) (w : World) (h : RdAt 133 S w g xs er) (he : er ≠ 0) :
    Calls Try.prog 78 #[.pointer (some ⟨g, 0, none⟩), .int .i64 size] w fun e w' => e = .returned (.int .i64 0) ∧ w = w' := by
  obtain ⟨hB, v, hblk, hby⟩ := h
  obtain ⟨c0, c1, f0, f1⟩ := cells2 hblk
  have hb : (er != 0) = true := by simpa using he
  clear hblk hby he
  go_enter Try.func78, Try.ntmps78
  go_wp2_with fail
  go_ret
  exact ⟨rfl, rfl⟩

theorem rrnum_short (S : Nat → Prop) (g : Nat) (xs : List UInt8) (size : Nat) (w : World) (h : RdAt 133 S w g xs 0) (h1 : 1 ≤ size) (h8 : size ≤ 8) (hx : xs.length < size) :
    Calls Try.prog 78 #[.pointer (some ⟨g, 0, none⟩), .int .i64 size] w fun e w' => e = .returned (.int .i64 0) ∧ RdAt 133 S w' g xs 10 ∧ w.grownBy w' (some g) := by
  obtain ⟨hB, v, hblk, hby⟩ := h
  obtain ⟨c0, c1, f0, f1⟩ := cells2 hblk
  have Hby := Lib.hid hby
  obtain ⟨A, c, rfl⟩ := hby.slice
  have Hblk := Lib.hid hblk
  clear hby hblk
  have s1 : 1 ≤ (size : Int) := by omega
  have s8 : (size : Int) ≤ 8 := by omega
  have sx : (xs.length : Int) < size := by omega
  go_enter Try.func78, Try.ntmps78
  go_wp2_with fail
  go_ret
  exact ⟨rfl, ⟨hB, _, blk_put1 Hblk.out _, Hby.out.keepS ((Same.refl _ _).setCell hB _)⟩, grown_set (grown_refl _ _) _ _⟩

theorem rrnum_ok (S : Nat → Prop) (g : Nat) (xs : List UInt8) (size : Nat) (w : World) (h : RdAt 133 S w g xs 0) (h1 : 1 ≤ size) (h8 : size ≤ 7) (hx : size ≤ xs.length) :
    Calls Try.prog 78 #[.pointer (some ⟨g, 0, none⟩), .int .i64 size] w fun e w' => e = .returned (.int .i64 (beVal (xs.take size))) ∧ RdAt 133 S w' g (xs.drop size) 0 ∧ w.grownBy w' (some g) := by
  obtain ⟨hB, v, hblk, hby⟩ := h
  obtain ⟨c0, c1, f0, f1⟩ := cells2 hblk
  have hg := rget_yes v xs 0 size w hby h1 (by omega) (by omega)
  obtain ⟨a1, n1, k1, hb1, hn1, hr1⟩ := bytes_l hby (size : Int) (by omega) (by omega)
  have r1 := fun w0 => hr1 w0 .i64
  rw [Int.toNat_natCast] at hb1
  have Hb1 := Lib.hid hb1
  obtain ⟨A, c, rfl⟩ := hby.slice
  rw [List.drop_zero] at hg
  have Hg := Lib.hid hg
  have Hblk := Lib.hid hblk
  have hbl := beVal_lt (xs.take size)
  have hkk : (xs.take size).length = size := by simp; omega
  rw [hkk] at hbl
  have hpw : 256 ^ size ≤ 256 ^ 7 := Nat.pow_le_pow_right (by omega) (by omega)
  have hm : beVal (xs.take size) < 72057594037927936 := Nat.lt_of_lt_of_le hbl hpw
  clear hby hblk hg hbl hkk hpw hb1 hr1 hn1
  generalize beVal (xs.take size) = m at *
  have s1 : 1 ≤ (size : Int) := by omega
  have s8 : (size : Int) ≤ 8 := by omega
  have s9 : (size : Int) ≤ xs.length := by omega
  obtain ⟨M, hM⟩ : ∃ M : Int, M = m := ⟨_, rfl⟩
  have m1 : 0 ≤ M := by omega
  have m2 : M < 72057594037927936 := by omega
  rw [← hM] at Hg
  rw [← hM]
  clear hM hm
  go_enter Try.func78, Try.ntmps78
  go_wp2_with (go_at_call 77; refine Hg.out.mono ?_; rintro _ _ ⟨rfl, rfl⟩)
  go_ret
  exact ⟨rfl, ⟨hB, _, blk_put Hblk.out _, Hb1.out.keepS ((Same.refl _ _).setCell hB _)⟩, grown_set (grown_refl _ _) _ _⟩

theorem rrbytes_err (S : Nat → Prop) (g : Nat) (xs : List UInt8) (er : Int) (size : Int) (w : World) (h : RdAt 133 S w g xs er) (he : er ≠ 0) :
    Calls Try.prog 80 #[.pointer (some ⟨g, 0, none⟩), .int .i64 size] w fun e w' => e = .returned (.slice none 0 0) ∧ w = w' := by
  obtain ⟨hB, v, hblk, hby⟩ := h
  obtain ⟨c0, c1, f0, f1⟩ := cells2 hblk
  have hb : (er != 0) = true := by simpa using he
  clear hblk hby he
  go_enter Try.func80, Try.ntmps80
  go_wp2_with fail
  go_ret
  exact ⟨rfl, rfl⟩

theorem rrbytes_no (S : Nat → Prop) (g : Nat) (xs : List UInt8) (size : Nat) (w : World) (h : RdAt 133 S w g xs 0) (hs : size = 1 ∨ size = 2 ∨ size = 4) (he : (cutOf size xs).2.2 ≠ 0) (h47 : xs.length ≤ 140737488355328) :
    Calls Try.prog 80 #[.pointer (some ⟨g, 0, none⟩), .int .i64 size] w fun e w' => e = .returned (.slice none 0 0) ∧ RdAt 133 S w' g xs (cutOf size xs).2.2 ∧ w.grownBy w' (some g) := by
  obtain ⟨hB, v, hblk, hby⟩ := h
  obtain ⟨c0, c1, f0, f1⟩ := cells2 hblk
  have hcut := rcut_any S v xs size w hby hs h47
  have Hcut := Lib.hid hcut
  have Hblk := Lib.hid hblk
  have Hby := Lib.hid hby
  have he2 : ((cutOf size xs).2.2 != 0) = true := by simpa using he
  have He := Lib.hid he
  obtain ⟨A, c, rfl⟩ := hby.slice
  clear hby hblk hcut he
  generalize (cutOf size xs).2.2 = er at *
  go_enter Try.func80, Try.ntmps80
  go_wp2_with fail
  refine Hcut.out.mono ?_
  rintro _ w1 ⟨u, r, rfl, -, -, hr, hb⟩
  obtain rfl := hr He.out
  have hblk1 := blk_keep hb Hblk.out
  obtain ⟨d0, d1, e0, e1⟩ := cells2 hblk1
  have Hblk1 := Lib.hid hblk1
  clear hblk1 hr
  go_wp2_with fail
  go_ret
  exact ⟨rfl, ⟨hB, _, blk_put1 Hblk1.out _, ((Hby.out.keep hb).keepS ((Same.refl _ _).setCell hB _))⟩, grown_set (grown_of_below hb _) _ _⟩

theorem rrbytes_ok (S : Nat → Prop) (g : Nat) (xs : List UInt8) (size : Nat) (w : World) (h : RdAt 133 S w g xs 0) (hS : ∀ b, w.heap.size ≤ b → S b) (hs : size = 1 ∨ size = 2 ∨ size = 4) (he : (cutOf size xs).2.2 = 0) (h47 : xs.length ≤ 140737488355328) :
    Calls Try.prog 80 #[.pointer (some ⟨g, 0, none⟩), .int .i64 size] w fun e w' => ∃ u, e = .returned u ∧ w'.ownsRow w.heap.size 5 1 u (cutOf size xs).1.length (byteCells (cutOf size xs).1) ∧ RdAt 133 S w' g (xs.drop (cutOf size xs).2.1) 0 ∧ w.grownBy w' (some g) := by
  obtain ⟨hB, v, hblk, hby⟩ := h
  obtain ⟨c0, c1, f0, f1⟩ := cells2 hblk
  have hgs := block_lt c0
  have hcut := rcut_any S v xs size w hby hs h47
  rw [he] at hcut
  have Hcut := Lib.hid hcut
  have Hblk := Lib.hid hblk
  obtain ⟨A, c, rfl⟩ := hby.slice
  clear hby hblk hcut he hs
  generalize xs.drop (cutOf size xs).2.1 = rs at *
  generalize (cutOf size xs).1 = p at *
  go_enter Try.func80, Try.ntmps80
  go_wp2_with fail
  refine Hcut.out.mono ?_
  rintro _ w1 ⟨u, r, rfl, hown, hr, -, hb1⟩
  have hr := hr (by trivial)
  have hblk1 := blk_keep hb1 Hblk.out
  obtain ⟨d0, d1, e0, e1⟩ := cells2 hblk1
  have Hblk1 := Lib.hid hblk1
  have Hown := Lib.hid hown
  have Hr := Lib.hid hr
  obtain ⟨A1, cc, rfl⟩ := (RowAt.of_own hown).slice
  obtain ⟨A2, cc2, rfl⟩ := (RowAt.of_own hr).slice
  clear hblk1 hown hr
  go_wp2_with fail
  go_ret
  refine ⟨_, rfl, own_far Hown.out hgs _, ⟨hB, _, blk_put Hblk1.out _, ?_⟩, grown_set (grown_of_below hb1 _) _ _⟩
  exact Bytes.keepS (RowAt.mono (RowAt.of_own Hr.out) fun b _ h => hS b h) ((Same.refl _ _).setCell hB _)

theorem rrend_any (S : Nat → Prop) (g : Nat) (xs : List UInt8) (er : Int) (w : World) (h : RdAt 133 S w g xs er) :
    Calls Try.prog 62 #[.pointer (some ⟨g, 0, none⟩)] w fun e w' => e = .returned (.int .i64 (endOf xs er)) ∧ Below w.heap.size w w' := by
  obtain ⟨hB, v, hblk, hby⟩ := h
  obtain ⟨c0, c1, f0, f1⟩ := cells2 hblk
  obtain ⟨A, c, rfl⟩ := hby.slice
  clear hblk hby
  by_cases he : er = 0
  · subst he
    by_cases hx : xs.length = 0
    · have e : endOf xs 0 = 0 := by simp [endOf, hx]
      rw [e]
      rw [hx] at c0
      go_enter Try.func62, Try.ntmps62
      go_wp2
      go_ret
      exact ⟨rfl, Below.refl _ _⟩
    · have e : endOf xs 0 = 11 := by simp [endOf, hx]
      rw [e]
      have hx2 : 0 < xs.length := by omega
      go_enter Try.func62, Try.ntmps62
      go_wp2
      go_ret
      exact ⟨rfl, Below.refl _ _⟩
  · have e : endOf xs er = er := by simp [endOf, he]
    rw [e]
    have hb : (er == 0) = false := by simpa using he
    clear e he
    go_enter Try.func62, Try.ntmps62
    go_wp2
    go_ret
    exact ⟨rfl, Below.refl _ _⟩
end Go.Proofs.Ytoaoldhajpbenaa

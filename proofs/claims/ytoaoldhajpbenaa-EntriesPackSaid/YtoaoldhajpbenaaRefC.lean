/- The reference's writer. No statement is proved here. -/
import Derived.Test.YtoaoldhajpbenaaRefB
namespace Go.Proofs.Ytoaoldhajpbenaa
open Go.RowKit

/-- A byte more in a writer's row. -/
theorem wr_more {T : TypeId} {S : Nat → Prop} {B g : Nat} {w w1 : World} {v v' x : Value} {xs : List UInt8} {b : UInt8} (hx : x = .int .u8 b.toNat) (hT : 5 ≠ T) (hB : B ≤ g) (hSg : ¬ S g) (hS : ∀ b, S b → b < w.heap.size) (hvS : ∀ k, v.ownBlock = some k → ¬ S k) (hblk : w.heap[g]? = some (.cells #[v, .int .i64 0] T (0, 0)))
    (hown : w.ownsRow B 5 1 v xs.length (byteCells xs)) (hown1 : w1.ownsRow B 5 1 v' (xs.length + 1) (byteCells xs ++ [x])) (hg : (w.alloc (.cells #[x] 5)).grownBy w1 v.ownBlock) (hat : v'.ownBlock = v.ownBlock ∨ v'.ownBlock = some (w.heap.size + 1)) :
    w1.heap[g]? = some (.cells #[v, .int .i64 0] T (0, 0)) ∧ WrS T S B (w1.setCell ⟨g, 0, none⟩ v') g (xs ++ [b]) 0 ∧ Same S w (w1.setCell ⟨g, 0, none⟩ v') ∧ Below B w (w1.setCell ⟨g, 0, none⟩ v') := by
  subst hx
  have hgs := (Array.getElem?_eq_some_iff.1 hblk).1
  have hb0 : Below B w (w.alloc (.cells #[.int .u8 b.toNat] 5)) := (Below.refl B w).alloc (by omega) _
  have h1 := wr_grown (blk_alloc hblk _) hT (own_keep hown (box_below w (.cells #[.int .u8 b.toNat] 5))) hg
  refine ⟨h1, ⟨hB, hSg, v', blk_put h1 v', ?_, fun k hk hs => ?_⟩, ?_, ?_⟩
  · have e : (xs ++ [b]).length = xs.length + 1 := by simp
    rw [e, byteCells_append]
    exact own_put hown1 h1 hT v'
  · have hlt := hS k hs
    rcases hat with h | h
    · exact hvS k (h ▸ hk) hs
    · rw [hk] at h
      injection h with h
      omega
  · exact ((Same.of_below' (box_below w _) S).trans (same_grownO hg hvS)).setCell hSg _
  · exact (hb0.grown hg (by simp; omega) (own_blk_ge hown)).setCell hB _
theorem byte_cell (n : Nat) (i : Nat) : Value.int .u8 ((n : Int) / (256 ^ i : Nat) % 256) = .int .u8 (byteOf n i).toNat := by rw [byteOf_nat]

set_option maxRecDepth 100000 in
set_option maxHeartbeats 4000000 in
theorem rwnum_at1 (S : Nat → Prop) (B g : Nat) (xs : List UInt8) (n : Int) (w : World) (h : WrS 109 S B w g xs 0) (hS : ∀ b, S b → b < w.heap.size) (hn0 : 0 ≤ n) (hN : n < 256) (hx : xs.length ≤ 1000000000) :
    Calls Try.prog 70 #[.pointer (some ⟨g, 0, none⟩), .int .i64 1, .int .i64 n] w fun e w' => (∃ v, e = .returned v) ∧ WrS 109 S B w' g (xs ++ be 1 n.toNat) 0 ∧ Same S w w' ∧ Below B w w' := by
  obtain ⟨i0, hi, hz0, hz1, hz2⟩ := info_parts infoU8
  obtain ⟨N, hNn⟩ : ∃ N : Nat, (N : Int) = n := ⟨n.toNat, by omega⟩
  have hbe : n.toNat = N := by omega
  rw [hbe]
  have y0 : Value.int .u8 (n) = .int .u8 (byteOf N 0).toNat := by rw [byteOf_nat]; congr 1; subst hNn; first | rfl | (simp; done) | (simp; omega)
  have Y := Lib.hid ((⟨y0, trivial⟩ : Value.int .u8 (n) = .int .u8 (byteOf N 0).toNat ∧ True))
  have Hx := Lib.hid hx
  have HN := Lib.hid hNn
  clear hbe hNn hx y0
  have hb : Below B w w := Below.refl _ _
  have hsm : Same S w w := Same.refl _ _
  have HS := Lib.hid hS
  clear hS
  go_enter Try.func70, Try.ntmps70
  obtain ⟨hB, hSg, v0, hblk0, hown0, hvS⟩ := h
  have HvS0 := Lib.hid hvS
  clear hvS
  have hgs := (Array.getElem?_eq_some_iff.1 hblk0).1
  have Hown0 := Lib.hid hown0
  have Hblk0 := Lib.hid hblk0
  obtain ⟨c00, c01, f00, f01⟩ := cells2 hblk0
  clear hown0 hblk0
  go_wp2_with fail
  refine wp_loop_rounds 2 ?_
  rw [rounds_succ]
  go_wp2_with (at_builtin; refine wpList_append_own_at _ rfl _ _ 31 rfl B 5 i0 (.int .u8 0) 1 1 Try.underlying31 hi hz0 hz1 hz2 rfl (by decide) v0 _ _ rfl (own_keep Hown0.out (box_below _ (.cells #[.int .u8 (n)] 5))) ⟨w.heap.size, 0, none⟩ 1 1 [.int .u8 (n)] rfl rfl (cell_one _ _ _) (by simp [Value.oneCell']) ?h30 ?h40 ?h50 ?_)
  case h30 => have := Hx.out; simp [maxLen]; omega
  case h40 => have := Hx.out; simp; omega
  case h50 => simp; omega
  intro u0 w0 hown1 hgr _ hat
  have hSw : ∀ b, S b → b < w.heap.size := fun b hb0 => Nat.lt_of_lt_of_le (HS.out b hb0) hsm.size
  obtain ⟨hblk1, hwr, hsm1, hbl⟩ := wr_more Y.out.1 (by decide) hB hSg hSw HvS0.out Hblk0.out Hown0.out hown1 hgr hat
  obtain ⟨d0, d1, e0, e1⟩ := cells2 hblk1
  obtain ⟨A0, cc0, rfl⟩ := (RowAt.of_own hown1).slice
  have hb := hb.trans hbl
  have hsm := hsm.trans hsm1
  have Hwr := Lib.hid hwr
  clear hown1 hgr hblk1 hwr hbl hat hSw hsm1
  go_wp2_with fail
  rw [rounds_succ]
  go_wp2_with fail
  go_end0
  refine ⟨⟨_, rfl⟩, ?_, hsm, hb⟩
  have h := Hwr.out
  simpa [be] using h

set_option maxRecDepth 100000 in
set_option maxHeartbeats 4000000 in
theorem rwnum_at2 (S : Nat → Prop) (B g : Nat) (xs : List UInt8) (n : Int) (w : World) (h : WrS 109 S B w g xs 0) (hS : ∀ b, S b → b < w.heap.size) (hn0 : 0 ≤ n) (hN : n < 65536) (hx : xs.length ≤ 1000000000) :
    Calls Try.prog 70 #[.pointer (some ⟨g, 0, none⟩), .int .i64 2, .int .i64 n] w fun e w' => (∃ v, e = .returned v) ∧ WrS 109 S B w' g (xs ++ be 2 n.toNat) 0 ∧ Same S w w' ∧ Below B w w' := by
  obtain ⟨i0, hi, hz0, hz1, hz2⟩ := info_parts infoU8
  obtain ⟨N, hNn⟩ : ∃ N : Nat, (N : Int) = n := ⟨n.toNat, by omega⟩
  have hbe : n.toNat = N := by omega
  rw [hbe]
  have y0 : Value.int .u8 (n / 256) = .int .u8 (byteOf N 1).toNat := by rw [byteOf_nat]; congr 1; subst hNn; first | rfl | (simp; done) | (simp; omega)
  have y1 : Value.int .u8 (n % 256) = .int .u8 (byteOf N 0).toNat := by rw [byteOf_nat]; congr 1; subst hNn; first | rfl | (simp; done) | (simp; omega)
  have Y := Lib.hid ((⟨y0, y1, trivial⟩ : Value.int .u8 (n / 256) = .int .u8 (byteOf N 1).toNat ∧ Value.int .u8 (n % 256) = .int .u8 (byteOf N 0).toNat ∧ True))
  have Hx := Lib.hid hx
  have HN := Lib.hid hNn
  clear hbe hNn hx y0 y1
  have hb : Below B w w := Below.refl _ _
  have hsm : Same S w w := Same.refl _ _
  have HS := Lib.hid hS
  clear hS
  go_enter Try.func70, Try.ntmps70
  obtain ⟨hB, hSg, v0, hblk0, hown0, hvS⟩ := h
  have HvS0 := Lib.hid hvS
  clear hvS
  have hgs := (Array.getElem?_eq_some_iff.1 hblk0).1
  have Hown0 := Lib.hid hown0
  have Hblk0 := Lib.hid hblk0
  obtain ⟨c00, c01, f00, f01⟩ := cells2 hblk0
  clear hown0 hblk0
  go_wp2_with fail
  refine wp_loop_rounds 3 ?_
  rw [rounds_succ]
  go_wp2_with (at_builtin; refine wpList_append_own_at _ rfl _ _ 31 rfl B 5 i0 (.int .u8 0) 1 1 Try.underlying31 hi hz0 hz1 hz2 rfl (by decide) v0 _ _ rfl (own_keep Hown0.out (box_below _ (.cells #[.int .u8 (n / 256)] 5))) ⟨w.heap.size, 0, none⟩ 1 1 [.int .u8 (n / 256)] rfl rfl (cell_one _ _ _) (by simp [Value.oneCell']) ?h30 ?h40 ?h50 ?_)
  case h30 => have := Hx.out; simp [maxLen]; omega
  case h40 => have := Hx.out; simp; omega
  case h50 => simp; omega
  intro u0 w0 hown1 hgr _ hat
  have hSw : ∀ b, S b → b < w.heap.size := fun b hb0 => Nat.lt_of_lt_of_le (HS.out b hb0) hsm.size
  obtain ⟨hblk1, hwr, hsm1, hbl⟩ := wr_more Y.out.1 (by decide) hB hSg hSw HvS0.out Hblk0.out Hown0.out hown1 hgr hat
  obtain ⟨d0, d1, e0, e1⟩ := cells2 hblk1
  obtain ⟨A0, cc0, rfl⟩ := (RowAt.of_own hown1).slice
  have hb := hb.trans hbl
  have hsm := hsm.trans hsm1
  have Hwr := Lib.hid hwr
  clear hown1 hgr hblk1 hwr hbl hat hSw hsm1
  go_wp2_with fail
  obtain ⟨W1, hW⟩ : ∃ W, w0.setCell ⟨g, 0, none⟩ (.slice A0 (xs.length + 1) cc0) = W := ⟨_, rfl⟩
  rw [hW] at Hwr hb hsm ⊢
  obtain ⟨xs1, hxs⟩ : ∃ ys, ys = xs ++ [byteOf N 1] := ⟨_, rfl⟩
  rw [← hxs] at Hwr
  have Hxs1 := Lib.hid hxs
  clear d0 d1 e0 e1 hW hxs
  obtain ⟨-, -, v1, hblk, hown, hvS⟩ := Hwr.out
  have HvS1 := Lib.hid hvS
  clear hvS
  have hgs := (Array.getElem?_eq_some_iff.1 hblk).1
  have Hown1 := Lib.hid hown
  have Hblk1 := Lib.hid hblk
  obtain ⟨c10, c11, f10, f11⟩ := cells2 hblk
  clear hown hblk
  rw [rounds_succ]
  go_wp2_with (at_builtin; refine wpList_append_own_at _ rfl _ _ 31 rfl B 5 i0 (.int .u8 0) 1 1 Try.underlying31 hi hz0 hz1 hz2 rfl (by decide) v1 _ _ rfl (own_keep Hown1.out (box_below _ (.cells #[.int .u8 (n % 256)] 5))) ⟨W1.heap.size, 0, none⟩ 1 1 [.int .u8 (n % 256)] rfl rfl (cell_one _ _ _) (by simp [Value.oneCell']) ?h31 ?h41 ?h51 ?_)
  case h31 => have := Hx.out; have := congrArg List.length Hxs1.out; simp at this; simp [maxLen]; omega
  case h41 => have := Hx.out; have := congrArg List.length Hxs1.out; simp at this; simp; omega
  case h51 => simp; omega
  intro u1 w1 hown1 hgr _ hat
  have hSw : ∀ b, S b → b < W1.heap.size := fun b hb0 => Nat.lt_of_lt_of_le (HS.out b hb0) hsm.size
  obtain ⟨hblk1, hwr, hsm1, hbl⟩ := wr_more Y.out.2.1 (by decide) hB hSg hSw HvS1.out Hblk1.out Hown1.out hown1 hgr hat
  obtain ⟨d0, d1, e0, e1⟩ := cells2 hblk1
  obtain ⟨A1, cc1, rfl⟩ := (RowAt.of_own hown1).slice
  have hb := hb.trans hbl
  have hsm := hsm.trans hsm1
  have Hwr := Lib.hid hwr
  clear hown1 hgr hblk1 hwr hbl hat hSw hsm1
  go_wp2_with fail
  rw [rounds_succ]
  go_wp2_with fail
  go_end0
  refine ⟨⟨_, rfl⟩, ?_, hsm, hb⟩
  have h := Hwr.out
  simpa [be, Hxs1.out] using h

set_option maxRecDepth 100000 in
set_option maxHeartbeats 4000000 in
theorem rwnum_at4 (S : Nat → Prop) (B g : Nat) (xs : List UInt8) (n : Int) (w : World) (h : WrS 109 S B w g xs 0) (hS : ∀ b, S b → b < w.heap.size) (hn0 : 0 ≤ n) (hN : n < 4294967296) (hx : xs.length ≤ 1000000000) :
    Calls Try.prog 70 #[.pointer (some ⟨g, 0, none⟩), .int .i64 4, .int .i64 n] w fun e w' => (∃ v, e = .returned v) ∧ WrS 109 S B w' g (xs ++ be 4 n.toNat) 0 ∧ Same S w w' ∧ Below B w w' := by
  obtain ⟨i0, hi, hz0, hz1, hz2⟩ := info_parts infoU8
  obtain ⟨N, hNn⟩ : ∃ N : Nat, (N : Int) = n := ⟨n.toNat, by omega⟩
  have hbe : n.toNat = N := by omega
  rw [hbe]
  have y0 : Value.int .u8 (n / 16777216) = .int .u8 (byteOf N 3).toNat := by rw [byteOf_nat]; congr 1; subst hNn; first | rfl | (simp; done) | (simp; omega)
  have y1 : Value.int .u8 (n / 65536 % 256) = .int .u8 (byteOf N 2).toNat := by rw [byteOf_nat]; congr 1; subst hNn; first | rfl | (simp; done) | (simp; omega)
  have y2 : Value.int .u8 (n / 256 % 256) = .int .u8 (byteOf N 1).toNat := by rw [byteOf_nat]; congr 1; subst hNn; first | rfl | (simp; done) | (simp; omega)
  have y3 : Value.int .u8 (n % 256) = .int .u8 (byteOf N 0).toNat := by rw [byteOf_nat]; congr 1; subst hNn; first | rfl | (simp; done) | (simp; omega)
  have Y := Lib.hid ((⟨y0, y1, y2, y3, trivial⟩ : Value.int .u8 (n / 16777216) = .int .u8 (byteOf N 3).toNat ∧ Value.int .u8 (n / 65536 % 256) = .int .u8 (byteOf N 2).toNat ∧ Value.int .u8 (n / 256 % 256) = .int .u8 (byteOf N 1).toNat ∧ Value.int .u8 (n % 256) = .int .u8 (byteOf N 0).toNat ∧ True))
  have Hx := Lib.hid hx
  have HN := Lib.hid hNn
  clear hbe hNn hx y0 y1 y2 y3
  have hb : Below B w w := Below.refl _ _
  have hsm : Same S w w := Same.refl _ _
  have HS := Lib.hid hS
  clear hS
  go_enter Try.func70, Try.ntmps70
  obtain ⟨hB, hSg, v0, hblk0, hown0, hvS⟩ := h
  have HvS0 := Lib.hid hvS
  clear hvS
  have hgs := (Array.getElem?_eq_some_iff.1 hblk0).1
  have Hown0 := Lib.hid hown0
  have Hblk0 := Lib.hid hblk0
  obtain ⟨c00, c01, f00, f01⟩ := cells2 hblk0
  clear hown0 hblk0
  go_wp2_with fail
  refine wp_loop_rounds 5 ?_
  rw [rounds_succ]
  go_wp2_with (at_builtin; refine wpList_append_own_at _ rfl _ _ 31 rfl B 5 i0 (.int .u8 0) 1 1 Try.underlying31 hi hz0 hz1 hz2 rfl (by decide) v0 _ _ rfl (own_keep Hown0.out (box_below _ (.cells #[.int .u8 (n / 16777216)] 5))) ⟨w.heap.size, 0, none⟩ 1 1 [.int .u8 (n / 16777216)] rfl rfl (cell_one _ _ _) (by simp [Value.oneCell']) ?h30 ?h40 ?h50 ?_)
  case h30 => have := Hx.out; simp [maxLen]; omega
  case h40 => have := Hx.out; simp; omega
  case h50 => simp; omega
  intro u0 w0 hown1 hgr _ hat
  have hSw : ∀ b, S b → b < w.heap.size := fun b hb0 => Nat.lt_of_lt_of_le (HS.out b hb0) hsm.size
  obtain ⟨hblk1, hwr, hsm1, hbl⟩ := wr_more Y.out.1 (by decide) hB hSg hSw HvS0.out Hblk0.out Hown0.out hown1 hgr hat
  obtain ⟨d0, d1, e0, e1⟩ := cells2 hblk1
  obtain ⟨A0, cc0, rfl⟩ := (RowAt.of_own hown1).slice
  have hb := hb.trans hbl
  have hsm := hsm.trans hsm1
  have Hwr := Lib.hid hwr
  clear hown1 hgr hblk1 hwr hbl hat hSw hsm1
  go_wp2_with fail
  obtain ⟨W1, hW⟩ : ∃ W, w0.setCell ⟨g, 0, none⟩ (.slice A0 (xs.length + 1) cc0) = W := ⟨_, rfl⟩
  rw [hW] at Hwr hb hsm ⊢
  obtain ⟨xs1, hxs⟩ : ∃ ys, ys = xs ++ [byteOf N 3] := ⟨_, rfl⟩
  rw [← hxs] at Hwr
  have Hxs1 := Lib.hid hxs
  clear d0 d1 e0 e1 hW hxs
  obtain ⟨-, -, v1, hblk, hown, hvS⟩ := Hwr.out
  have HvS1 := Lib.hid hvS
  clear hvS
  have hgs := (Array.getElem?_eq_some_iff.1 hblk).1
  have Hown1 := Lib.hid hown
  have Hblk1 := Lib.hid hblk
  obtain ⟨c10, c11, f10, f11⟩ := cells2 hblk
  clear hown hblk
  rw [rounds_succ]
  go_wp2_with (at_builtin; refine wpList_append_own_at _ rfl _ _ 31 rfl B 5 i0 (.int .u8 0) 1 1 Try.underlying31 hi hz0 hz1 hz2 rfl (by decide) v1 _ _ rfl (own_keep Hown1.out (box_below _ (.cells #[.int .u8 (n / 65536 % 256)] 5))) ⟨W1.heap.size, 0, none⟩ 1 1 [.int .u8 (n / 65536 % 256)] rfl rfl (cell_one _ _ _) (by simp [Value.oneCell']) ?h31 ?h41 ?h51 ?_)
  case h31 => have := Hx.out; have := congrArg List.length Hxs1.out; simp at this; simp [maxLen]; omega
  case h41 => have := Hx.out; have := congrArg List.length Hxs1.out; simp at this; simp; omega
  case h51 => simp; omega
  intro u1 w1 hown1 hgr _ hat
  have hSw : ∀ b, S b → b < W1.heap.size := fun b hb0 => Nat.lt_of_lt_of_le (HS.out b hb0) hsm.size
  obtain ⟨hblk1, hwr, hsm1, hbl⟩ := wr_more Y.out.2.1 (by decide) hB hSg hSw HvS1.out Hblk1.out Hown1.out hown1 hgr hat
  obtain ⟨d0, d1, e0, e1⟩ := cells2 hblk1
  obtain ⟨A1, cc1, rfl⟩ := (RowAt.of_own hown1).slice
  have hb := hb.trans hbl
  have hsm := hsm.trans hsm1
  have Hwr := Lib.hid hwr
  clear hown1 hgr hblk1 hwr hbl hat hSw hsm1
  go_wp2_with fail
  obtain ⟨W2, hW⟩ : ∃ W, w1.setCell ⟨g, 0, none⟩ (.slice A1 (xs1.length + 1) cc1) = W := ⟨_, rfl⟩
  rw [hW] at Hwr hb hsm ⊢
  obtain ⟨xs2, hxs⟩ : ∃ ys, ys = xs1 ++ [byteOf N 2] := ⟨_, rfl⟩
  rw [← hxs] at Hwr
  have Hxs2 := Lib.hid hxs
  clear d0 d1 e0 e1 hW hxs
  obtain ⟨-, -, v2, hblk, hown, hvS⟩ := Hwr.out
  have HvS2 := Lib.hid hvS
  clear hvS
  have hgs := (Array.getElem?_eq_some_iff.1 hblk).1
  have Hown2 := Lib.hid hown
  have Hblk2 := Lib.hid hblk
  obtain ⟨c20, c21, f20, f21⟩ := cells2 hblk
  clear hown hblk
  rw [rounds_succ]
  go_wp2_with (at_builtin; refine wpList_append_own_at _ rfl _ _ 31 rfl B 5 i0 (.int .u8 0) 1 1 Try.underlying31 hi hz0 hz1 hz2 rfl (by decide) v2 _ _ rfl (own_keep Hown2.out (box_below _ (.cells #[.int .u8 (n / 256 % 256)] 5))) ⟨W2.heap.size, 0, none⟩ 1 1 [.int .u8 (n / 256 % 256)] rfl rfl (cell_one _ _ _) (by simp [Value.oneCell']) ?h32 ?h42 ?h52 ?_)
  case h32 => have := Hx.out; have := congrArg List.length Hxs1.out; simp at this; have := congrArg List.length Hxs2.out; simp at this; simp [maxLen]; omega
  case h42 => have := Hx.out; have := congrArg List.length Hxs1.out; simp at this; have := congrArg List.length Hxs2.out; simp at this; simp; omega
  case h52 => simp; omega
  intro u2 w2 hown1 hgr _ hat
  have hSw : ∀ b, S b → b < W2.heap.size := fun b hb0 => Nat.lt_of_lt_of_le (HS.out b hb0) hsm.size
  obtain ⟨hblk1, hwr, hsm1, hbl⟩ := wr_more Y.out.2.2.1 (by decide) hB hSg hSw HvS2.out Hblk2.out Hown2.out hown1 hgr hat
  obtain ⟨d0, d1, e0, e1⟩ := cells2 hblk1
  obtain ⟨A2, cc2, rfl⟩ := (RowAt.of_own hown1).slice
  have hb := hb.trans hbl
  have hsm := hsm.trans hsm1
  have Hwr := Lib.hid hwr
  clear hown1 hgr hblk1 hwr hbl hat hSw hsm1
  go_wp2_with fail
  obtain ⟨W3, hW⟩ : ∃ W, w2.setCell ⟨g, 0, none⟩ (.slice A2 (xs2.length + 1) cc2) = W := ⟨_, rfl⟩
  rw [hW] at Hwr hb hsm ⊢
  obtain ⟨xs3, hxs⟩ : ∃ ys, ys = xs2 ++ [byteOf N 1] := ⟨_, rfl⟩
  rw [← hxs] at Hwr
  have Hxs3 := Lib.hid hxs
  clear d0 d1 e0 e1 hW hxs
  obtain ⟨-, -, v3, hblk, hown, hvS⟩ := Hwr.out
  have HvS3 := Lib.hid hvS
  clear hvS
  have hgs := (Array.getElem?_eq_some_iff.1 hblk).1
  have Hown3 := Lib.hid hown
  have Hblk3 := Lib.hid hblk
  obtain ⟨c30, c31, f30, f31⟩ := cells2 hblk
  clear hown hblk
  rw [rounds_succ]
  go_wp2_with (at_builtin; refine wpList_append_own_at _ rfl _ _ 31 rfl B 5 i0 (.int .u8 0) 1 1 Try.underlying31 hi hz0 hz1 hz2 rfl (by decide) v3 _ _ rfl (own_keep Hown3.out (box_below _ (.cells #[.int .u8 (n % 256)] 5))) ⟨W3.heap.size, 0, none⟩ 1 1 [.int .u8 (n % 256)] rfl rfl (cell_one _ _ _) (by simp [Value.oneCell']) ?h33 ?h43 ?h53 ?_)
  case h33 => have := Hx.out; have := congrArg List.length Hxs1.out; simp at this; have := congrArg List.length Hxs2.out; simp at this; have := congrArg List.length Hxs3.out; simp at this; simp [maxLen]; omega
  case h43 => have := Hx.out; have := congrArg List.length Hxs1.out; simp at this; have := congrArg List.length Hxs2.out; simp at this; have := congrArg List.length Hxs3.out; simp at this; simp; omega
  case h53 => simp; omega
  intro u3 w3 hown1 hgr _ hat
  have hSw : ∀ b, S b → b < W3.heap.size := fun b hb0 => Nat.lt_of_lt_of_le (HS.out b hb0) hsm.size
  obtain ⟨hblk1, hwr, hsm1, hbl⟩ := wr_more Y.out.2.2.2.1 (by decide) hB hSg hSw HvS3.out Hblk3.out Hown3.out hown1 hgr hat
  obtain ⟨d0, d1, e0, e1⟩ := cells2 hblk1
  obtain ⟨A3, cc3, rfl⟩ := (RowAt.of_own hown1).slice
  have hb := hb.trans hbl
  have hsm := hsm.trans hsm1
  have Hwr := Lib.hid hwr
  clear hown1 hgr hblk1 hwr hbl hat hSw hsm1
  go_wp2_with fail
  rw [rounds_succ]
  go_wp2_with fail
  go_end0
  refine ⟨⟨_, rfl⟩, ?_, hsm, hb⟩
  have h := Hwr.out
  simpa [be, Hxs1.out, Hxs2.out, Hxs3.out] using h

set_option maxRecDepth 100000 in
set_option maxHeartbeats 4000000 in
theorem rwnum_at6 (S : Nat → Prop) (B g : Nat) (xs : List UInt8) (n : Int) (w : World) (h : WrS 109 S B w g xs 0) (hS : ∀ b, S b → b < w.heap.size) (hn0 : 0 ≤ n) (hN : n < 281474976710656) (hx : xs.length ≤ 1000000000) :
    Calls Try.prog 70 #[.pointer (some ⟨g, 0, none⟩), .int .i64 6, .int .i64 n] w fun e w' => (∃ v, e = .returned v) ∧ WrS 109 S B w' g (xs ++ be 6 n.toNat) 0 ∧ Same S w w' ∧ Below B w w' := by
  obtain ⟨i0, hi, hz0, hz1, hz2⟩ := info_parts infoU8
  obtain ⟨N, hNn⟩ : ∃ N : Nat, (N : Int) = n := ⟨n.toNat, by omega⟩
  have hbe : n.toNat = N := by omega
  rw [hbe]
  have y0 : Value.int .u8 (n / 1099511627776) = .int .u8 (byteOf N 5).toNat := by rw [byteOf_nat]; congr 1; subst hNn; first | rfl | (simp; done) | (simp; omega)
  have y1 : Value.int .u8 (n / 4294967296 % 256) = .int .u8 (byteOf N 4).toNat := by rw [byteOf_nat]; congr 1; subst hNn; first | rfl | (simp; done) | (simp; omega)
  have y2 : Value.int .u8 (n / 16777216 % 256) = .int .u8 (byteOf N 3).toNat := by rw [byteOf_nat]; congr 1; subst hNn; first | rfl | (simp; done) | (simp; omega)
  have y3 : Value.int .u8 (n / 65536 % 256) = .int .u8 (byteOf N 2).toNat := by rw [byteOf_nat]; congr 1; subst hNn; first | rfl | (simp; done) | (simp; omega)
  have y4 : Value.int .u8 (n / 256 % 256) = .int .u8 (byteOf N 1).toNat := by rw [byteOf_nat]; congr 1; subst hNn; first | rfl | (simp; done) | (simp; omega)
  have y5 : Value.int .u8 (n % 256) = .int .u8 (byteOf N 0).toNat := by rw [byteOf_nat]; congr 1; subst hNn; first | rfl | (simp; done) | (simp; omega)
  have Y := Lib.hid ((⟨y0, y1, y2, y3, y4, y5, trivial⟩ : Value.int .u8 (n / 1099511627776) = .int .u8 (byteOf N 5).toNat ∧ Value.int .u8 (n / 4294967296 % 256) = .int .u8 (byteOf N 4).toNat ∧ Value.int .u8 (n / 16777216 % 256) = .int .u8 (byteOf N 3).toNat ∧ Value.int .u8 (n / 65536 % 256) = .int .u8 (byteOf N 2).toNat ∧ Value.int .u8 (n / 256 % 256) = .int .u8 (byteOf N 1).toNat ∧ Value.int .u8 (n % 256) = .int .u8 (byteOf N 0).toNat ∧ True))
  have Hx := Lib.hid hx
  have HN := Lib.hid hNn
  clear hbe hNn hx y0 y1 y2 y3 y4 y5
  have hb : Below B w w := Below.refl _ _
  have hsm : Same S w w := Same.refl _ _
  have HS := Lib.hid hS
  clear hS
  go_enter Try.func70, Try.ntmps70
  obtain ⟨hB, hSg, v0, hblk0, hown0, hvS⟩ := h
  have HvS0 := Lib.hid hvS
  clear hvS
  have hgs := (Array.getElem?_eq_some_iff.1 hblk0).1
  have Hown0 := Lib.hid hown0
  have Hblk0 := Lib.hid hblk0
  obtain ⟨c00, c01, f00, f01⟩ := cells2 hblk0
  clear hown0 hblk0
  go_wp2_with fail
  refine wp_loop_rounds 7 ?_
  rw [rounds_succ]
  go_wp2_with (at_builtin; refine wpList_append_own_at _ rfl _ _ 31 rfl B 5 i0 (.int .u8 0) 1 1 Try.underlying31 hi hz0 hz1 hz2 rfl (by decide) v0 _ _ rfl (own_keep Hown0.out (box_below _ (.cells #[.int .u8 (n / 1099511627776)] 5))) ⟨w.heap.size, 0, none⟩ 1 1 [.int .u8 (n / 1099511627776)] rfl rfl (cell_one _ _ _) (by simp [Value.oneCell']) ?h30 ?h40 ?h50 ?_)
  case h30 => have := Hx.out; simp [maxLen]; omega
  case h40 => have := Hx.out; simp; omega
  case h50 => simp; omega
  intro u0 w0 hown1 hgr _ hat
  have hSw : ∀ b, S b → b < w.heap.size := fun b hb0 => Nat.lt_of_lt_of_le (HS.out b hb0) hsm.size
  obtain ⟨hblk1, hwr, hsm1, hbl⟩ := wr_more Y.out.1 (by decide) hB hSg hSw HvS0.out Hblk0.out Hown0.out hown1 hgr hat
  obtain ⟨d0, d1, e0, e1⟩ := cells2 hblk1
  obtain ⟨A0, cc0, rfl⟩ := (RowAt.of_own hown1).slice
  have hb := hb.trans hbl
  have hsm := hsm.trans hsm1
  have Hwr := Lib.hid hwr
  clear hown1 hgr hblk1 hwr hbl hat hSw hsm1
  go_wp2_with fail
  obtain ⟨W1, hW⟩ : ∃ W, w0.setCell ⟨g, 0, none⟩ (.slice A0 (xs.length + 1) cc0) = W := ⟨_, rfl⟩
  rw [hW] at Hwr hb hsm ⊢
  obtain ⟨xs1, hxs⟩ : ∃ ys, ys = xs ++ [byteOf N 5] := ⟨_, rfl⟩
  rw [← hxs] at Hwr
  have Hxs1 := Lib.hid hxs
  clear d0 d1 e0 e1 hW hxs
  obtain ⟨-, -, v1, hblk, hown, hvS⟩ := Hwr.out
  have HvS1 := Lib.hid hvS
  clear hvS
  have hgs := (Array.getElem?_eq_some_iff.1 hblk).1
  have Hown1 := Lib.hid hown
  have Hblk1 := Lib.hid hblk
  obtain ⟨c10, c11, f10, f11⟩ := cells2 hblk
  clear hown hblk
  rw [rounds_succ]
  go_wp2_with (at_builtin; refine wpList_append_own_at _ rfl _ _ 31 rfl B 5 i0 (.int .u8 0) 1 1 Try.underlying31 hi hz0 hz1 hz2 rfl (by decide) v1 _ _ rfl (own_keep Hown1.out (box_below _ (.cells #[.int .u8 (n / 4294967296 % 256)] 5))) ⟨W1.heap.size, 0, none⟩ 1 1 [.int .u8 (n / 4294967296 % 256)] rfl rfl (cell_one _ _ _) (by simp [Value.oneCell']) ?h31 ?h41 ?h51 ?_)
  case h31 => have := Hx.out; have := congrArg List.length Hxs1.out; simp at this; simp [maxLen]; omega
  case h41 => have := Hx.out; have := congrArg List.length Hxs1.out; simp at this; simp; omega
  case h51 => simp; omega
  intro u1 w1 hown1 hgr _ hat
  have hSw : ∀ b, S b → b < W1.heap.size := fun b hb0 => Nat.lt_of_lt_of_le (HS.out b hb0) hsm.size
  obtain ⟨hblk1, hwr, hsm1, hbl⟩ := wr_more Y.out.2.1 (by decide) hB hSg hSw HvS1.out Hblk1.out Hown1.out hown1 hgr hat
  obtain ⟨d0, d1, e0, e1⟩ := cells2 hblk1
  obtain ⟨A1, cc1, rfl⟩ := (RowAt.of_own hown1).slice
  have hb := hb.trans hbl
  have hsm := hsm.trans hsm1
  have Hwr := Lib.hid hwr
  clear hown1 hgr hblk1 hwr hbl hat hSw hsm1
  go_wp2_with fail
  obtain ⟨W2, hW⟩ : ∃ W, w1.setCell ⟨g, 0, none⟩ (.slice A1 (xs1.length + 1) cc1) = W := ⟨_, rfl⟩
  rw [hW] at Hwr hb hsm ⊢
  obtain ⟨xs2, hxs⟩ : ∃ ys, ys = xs1 ++ [byteOf N 4] := ⟨_, rfl⟩
  rw [← hxs] at Hwr
  have Hxs2 := Lib.hid hxs
  clear d0 d1 e0 e1 hW hxs
  obtain ⟨-, -, v2, hblk, hown, hvS⟩ := Hwr.out
  have HvS2 := Lib.hid hvS
  clear hvS
  have hgs := (Array.getElem?_eq_some_iff.1 hblk).1
  have Hown2 := Lib.hid hown
  have Hblk2 := Lib.hid hblk
  obtain ⟨c20, c21, f20, f21⟩ := cells2 hblk
  clear hown hblk
  rw [rounds_succ]
  go_wp2_with (at_builtin; refine wpList_append_own_at _ rfl _ _ 31 rfl B 5 i0 (.int .u8 0) 1 1 Try.underlying31 hi hz0 hz1 hz2 rfl (by decide) v2 _ _ rfl (own_keep Hown2.out (box_below _ (.cells #[.int .u8 (n / 16777216 % 256)] 5))) ⟨W2.heap.size, 0, none⟩ 1 1 [.int .u8 (n / 16777216 % 256)] rfl rfl (cell_one _ _ _) (by simp [Value.oneCell']) ?h32 ?h42 ?h52 ?_)
  case h32 => have := Hx.out; have := congrArg List.length Hxs1.out; simp at this; have := congrArg List.length Hxs2.out; simp at this; simp [maxLen]; omega
  case h42 => have := Hx.out; have := congrArg List.length Hxs1.out; simp at this; have := congrArg List.length Hxs2.out; simp at this; simp; omega
  case h52 => simp; omega
  intro u2 w2 hown1 hgr _ hat
  have hSw : ∀ b, S b → b < W2.heap.size := fun b hb0 => Nat.lt_of_lt_of_le (HS.out b hb0) hsm.size
  obtain ⟨hblk1, hwr, hsm1, hbl⟩ := wr_more Y.out.2.2.1 (by decide) hB hSg hSw HvS2.out Hblk2.out Hown2.out hown1 hgr hat
  obtain ⟨d0, d1, e0, e1⟩ := cells2 hblk1
  obtain ⟨A2, cc2, rfl⟩ := (RowAt.of_own hown1).slice
  have hb := hb.trans hbl
  have hsm := hsm.trans hsm1
  have Hwr := Lib.hid hwr
  clear hown1 hgr hblk1 hwr hbl hat hSw hsm1
  go_wp2_with fail
  obtain ⟨W3, hW⟩ : ∃ W, w2.setCell ⟨g, 0, none⟩ (.slice A2 (xs2.length + 1) cc2) = W := ⟨_, rfl⟩
  rw [hW] at Hwr hb hsm ⊢
  obtain ⟨xs3, hxs⟩ : ∃ ys, ys = xs2 ++ [byteOf N 3] := ⟨_, rfl⟩
  rw [← hxs] at Hwr
  have Hxs3 := Lib.hid hxs
  clear d0 d1 e0 e1 hW hxs
  obtain ⟨-, -, v3, hblk, hown, hvS⟩ := Hwr.out
  have HvS3 := Lib.hid hvS
  clear hvS
  have hgs := (Array.getElem?_eq_some_iff.1 hblk).1
  have Hown3 := Lib.hid hown
  have Hblk3 := Lib.hid hblk
  obtain ⟨c30, c31, f30, f31⟩ := cells2 hblk
  clear hown hblk
  rw [rounds_succ]
  go_wp2_with (at_builtin; refine wpList_append_own_at _ rfl _ _ 31 rfl B 5 i0 (.int .u8 0) 1 1 Try.underlying31 hi hz0 hz1 hz2 rfl (by decide) v3 _ _ rfl (own_keep Hown3.out (box_below _ (.cells #[.int .u8 (n / 65536 % 256)] 5))) ⟨W3.heap.size, 0, none⟩ 1 1 [.int .u8 (n / 65536 % 256)] rfl rfl (cell_one _ _ _) (by simp [Value.oneCell']) ?h33 ?h43 ?h53 ?_)
  case h33 => have := Hx.out; have := congrArg List.length Hxs1.out; simp at this; have := congrArg List.length Hxs2.out; simp at this; have := congrArg List.length Hxs3.out; simp at this; simp [maxLen]; omega
  case h43 => have := Hx.out; have := congrArg List.length Hxs1.out; simp at this; have := congrArg List.length Hxs2.out; simp at this; have := congrArg List.length Hxs3.out; simp at this; simp; omega
  case h53 => simp; omega
  intro u3 w3 hown1 hgr _ hat
  have hSw : ∀ b, S b → b < W3.heap.size := fun b hb0 => Nat.lt_of_lt_of_le (HS.out b hb0) hsm.size
  obtain ⟨hblk1, hwr, hsm1, hbl⟩ := wr_more Y.out.2.2.2.1 (by decide) hB hSg hSw HvS3.out Hblk3.out Hown3.out hown1 hgr hat
  obtain ⟨d0, d1, e0, e1⟩ := cells2 hblk1
  obtain ⟨A3, cc3, rfl⟩ := (RowAt.of_own hown1).slice
  have hb := hb.trans hbl
  have hsm := hsm.trans hsm1
  have Hwr := Lib.hid hwr
  clear hown1 hgr hblk1 hwr hbl hat hSw hsm1
  go_wp2_with fail
  obtain ⟨W4, hW⟩ : ∃ W, w3.setCell ⟨g, 0, none⟩ (.slice A3 (xs3.length + 1) cc3) = W := ⟨_, rfl⟩
  rw [hW] at Hwr hb hsm ⊢
  obtain ⟨xs4, hxs⟩ : ∃ ys, ys = xs3 ++ [byteOf N 2] := ⟨_, rfl⟩
  rw [← hxs] at Hwr
  have Hxs4 := Lib.hid hxs
  clear d0 d1 e0 e1 hW hxs
  obtain ⟨-, -, v4, hblk, hown, hvS⟩ := Hwr.out
  have HvS4 := Lib.hid hvS
  clear hvS
  have hgs := (Array.getElem?_eq_some_iff.1 hblk).1
  have Hown4 := Lib.hid hown
  have Hblk4 := Lib.hid hblk
  obtain ⟨c40, c41, f40, f41⟩ := cells2 hblk
  clear hown hblk
  rw [rounds_succ]
  go_wp2_with (at_builtin; refine wpList_append_own_at _ rfl _ _ 31 rfl B 5 i0 (.int .u8 0) 1 1 Try.underlying31 hi hz0 hz1 hz2 rfl (by decide) v4 _ _ rfl (own_keep Hown4.out (box_below _ (.cells #[.int .u8 (n / 256 % 256)] 5))) ⟨W4.heap.size, 0, none⟩ 1 1 [.int .u8 (n / 256 % 256)] rfl rfl (cell_one _ _ _) (by simp [Value.oneCell']) ?h34 ?h44 ?h54 ?_)
  case h34 => have := Hx.out; have := congrArg List.length Hxs1.out; simp at this; have := congrArg List.length Hxs2.out; simp at this; have := congrArg List.length Hxs3.out; simp at this; have := congrArg List.length Hxs4.out; simp at this; simp [maxLen]; omega
  case h44 => have := Hx.out; have := congrArg List.length Hxs1.out; simp at this; have := congrArg List.length Hxs2.out; simp at this; have := congrArg List.length Hxs3.out; simp at this; have := congrArg List.length Hxs4.out; simp at this; simp; omega
  case h54 => simp; omega
  intro u4 w4 hown1 hgr _ hat
  have hSw : ∀ b, S b → b < W4.heap.size := fun b hb0 => Nat.lt_of_lt_of_le (HS.out b hb0) hsm.size
  obtain ⟨hblk1, hwr, hsm1, hbl⟩ := wr_more Y.out.2.2.2.2.1 (by decide) hB hSg hSw HvS4.out Hblk4.out Hown4.out hown1 hgr hat
  obtain ⟨d0, d1, e0, e1⟩ := cells2 hblk1
  obtain ⟨A4, cc4, rfl⟩ := (RowAt.of_own hown1).slice
  have hb := hb.trans hbl
  have hsm := hsm.trans hsm1
  have Hwr := Lib.hid hwr
  clear hown1 hgr hblk1 hwr hbl hat hSw hsm1
  go_wp2_with fail
  obtain ⟨W5, hW⟩ : ∃ W, w4.setCell ⟨g, 0, none⟩ (.slice A4 (xs4.length + 1) cc4) = W := ⟨_, rfl⟩
  rw [hW] at Hwr hb hsm ⊢
  obtain ⟨xs5, hxs⟩ : ∃ ys, ys = xs4 ++ [byteOf N 1] := ⟨_, rfl⟩
  rw [← hxs] at Hwr
  have Hxs5 := Lib.hid hxs
  clear d0 d1 e0 e1 hW hxs
  obtain ⟨-, -, v5, hblk, hown, hvS⟩ := Hwr.out
  have HvS5 := Lib.hid hvS
  clear hvS
  have hgs := (Array.getElem?_eq_some_iff.1 hblk).1
  have Hown5 := Lib.hid hown
  have Hblk5 := Lib.hid hblk
  obtain ⟨c50, c51, f50, f51⟩ := cells2 hblk
  clear hown hblk
  rw [rounds_succ]
  go_wp2_with (at_builtin; refine wpList_append_own_at _ rfl _ _ 31 rfl B 5 i0 (.int .u8 0) 1 1 Try.underlying31 hi hz0 hz1 hz2 rfl (by decide) v5 _ _ rfl (own_keep Hown5.out (box_below _ (.cells #[.int .u8 (n % 256)] 5))) ⟨W5.heap.size, 0, none⟩ 1 1 [.int .u8 (n % 256)] rfl rfl (cell_one _ _ _) (by simp [Value.oneCell']) ?h35 ?h45 ?h55 ?_)
  case h35 => have := Hx.out; have := congrArg List.length Hxs1.out; simp at this; have := congrArg List.length Hxs2.out; simp at this; have := congrArg List.length Hxs3.out; simp at this; have := congrArg List.length Hxs4.out; simp at this; have := congrArg List.length Hxs5.out; simp at this; simp [maxLen]; omega
  case h45 => have := Hx.out; have := congrArg List.length Hxs1.out; simp at this; have := congrArg List.length Hxs2.out; simp at this; have := congrArg List.length Hxs3.out; simp at this; have := congrArg List.length Hxs4.out; simp at this; have := congrArg List.length Hxs5.out; simp at this; simp; omega
  case h55 => simp; omega
  intro u5 w5 hown1 hgr _ hat
  have hSw : ∀ b, S b → b < W5.heap.size := fun b hb0 => Nat.lt_of_lt_of_le (HS.out b hb0) hsm.size
  obtain ⟨hblk1, hwr, hsm1, hbl⟩ := wr_more Y.out.2.2.2.2.2.1 (by decide) hB hSg hSw HvS5.out Hblk5.out Hown5.out hown1 hgr hat
  obtain ⟨d0, d1, e0, e1⟩ := cells2 hblk1
  obtain ⟨A5, cc5, rfl⟩ := (RowAt.of_own hown1).slice
  have hb := hb.trans hbl
  have hsm := hsm.trans hsm1
  have Hwr := Lib.hid hwr
  clear hown1 hgr hblk1 hwr hbl hat hSw hsm1
  go_wp2_with fail
  rw [rounds_succ]
  go_wp2_with fail
  go_end0
  refine ⟨⟨_, rfl⟩, ?_, hsm, hb⟩
  have h := Hwr.out
  simpa [be, Hxs1.out, Hxs2.out, Hxs3.out, Hxs4.out, Hxs5.out] using h
end Go.Proofs.Ytoaoldhajpbenaa

/- Entries as bytes: Pack, of the program and of the reference. No statement is proved here. -/
import Derived.Test.YtoaoldhajpbenaaPckA
namespace Go.Proofs.Ytoaoldhajpbenaa
open Go.RowKit

set_option maxHeartbeats 1000000 in
theorem qput_ok (S : Nat → Prop) (B g : Nat) (xs : List UInt8) (e : Ent) (y : Value) (w : World) (h : WrS 109 S B w g xs 0) (hS : ∀ b, S b → b < w.heap.size) (hp : Bytes S w y e.cmd) (hr : rightB e = true) (hx : xs.length ≤ 90000000) :
    Calls Try.prog 55 #[.pointer (some ⟨g, 0, none⟩), .agg #[.int .i64 e.kind, .int .i64 e.term, y]] w fun r w' => (∃ v, r = .returned v) ∧ WrS 109 S B w' g (xs ++ encE e) 0 ∧ Same S w w' ∧ Below B w w' := by
  obtain ⟨k0, k2, t1, t2, cl⟩ := rightB_facts hr
  obtain ⟨hB, -⟩ := id h
  have hBw : B ≤ w.heap.size := by obtain ⟨-, -, v, hblk, -⟩ := h; have := (Array.getElem?_eq_some_iff.1 hblk).1; omega
  obtain ⟨k, t, cmd⟩ := e
  simp only at k0 k2 t1 t2 cl hp ⊢
  obtain ⟨A, c, rfl⟩ := hp.slice
  have hb1 := box_below w (.cells #[.int .i64 k, .int .i64 t, .slice A cmd.length c] 33)
  have hblkE := blk_new w (.cells #[.int .i64 k, .int .i64 t, .slice A cmd.length c] 33)
  obtain ⟨a0, a1, a2, _, _, _⟩ := cells3 hblkE
  have HG := h.grow hb1
  have hs2 : (w.alloc (.cells #[.int .i64 k, .int .i64 t, .slice A cmd.length c] 33)).heap.size = w.heap.size + 1 := by simp
  rw [hs2] at HG
  have hq : Bytes (fun b => S b ∨ w.heap.size ≤ b ∧ b < w.heap.size + 1) _ _ cmd := (hp.keep hb1).mono fun b _ h => Or.inl h
  obtain ⟨W0, hW0⟩ : ∃ W0, w.alloc (.cells #[.int .i64 k, .int .i64 t, .slice A cmd.length c] 33) = W0 := ⟨_, rfl⟩
  rw [hW0] at hb1 a0 a1 a2 HG hs2 hq
  obtain ⟨S2, hS2⟩ : ∃ S2 : Nat → Prop, S2 = fun b => S b ∨ w.heap.size ≤ b ∧ b < w.heap.size + 1 := ⟨_, rfl⟩
  rw [← hS2] at HG hq
  have hSE : S2 w.heap.size := by rw [hS2]; exact .inr ⟨by omega, by omega⟩
  have hS2w : ∀ b, S2 b → b < W0.heap.size := by
    intro b hb
    rw [hS2] at hb
    rw [hs2]
    rcases hb with hb | hb
    · have := hS b hb; omega
    · omega
  have hSS2 : ∀ b, S b → S2 b := fun b hb => by rw [hS2]; exact .inl hb
  have K := Lib.hid (And.intro hW0 (And.intro hS2w (And.intro hSS2 (And.intro hb1 (And.intro hx cl)))))
  have HQ := Lib.hid hq
  have HSL := Lib.hid hSE
  have HH := Lib.hid HG
  have Hbl0 := Lib.hid (Same.of_below' hb1 S)
  clear h hS hp hr hb1 hblkE HG hs2 hq hS2 hSE hS2w hSS2 hx cl
  go_enter Try.func55, Try.ntmps55
  go_wp2_with fail
  clear hW0
  refine (rwnum_at1 S2 B g xs (k + 64) W0 HH.out K.out.2.1 (by omega) (by omega) (by have := K.out; omega)).mono ?_
  rintro _ w1 ⟨⟨v1, rfl⟩, hw1, hsm1, hbl1⟩
  have b1 := hsm1.cell HSL.out a1
  have b2 := hsm1.cell HSL.out a2
  have HW1 := Lib.hid hw1
  have HS1 := Lib.hid hsm1
  clear hw1 hsm1
  go_wp2_with fail
  refine (rwnum_at6 S2 B g _ t w1 HW1.out (fun b hb => Nat.lt_of_lt_of_le (K.out.2.1 b hb) HS1.out.size) (by omega) (by omega) (by have := K.out; simp [be_length]; omega)).mono ?_
  rintro _ w2 ⟨⟨v2, rfl⟩, hw2, hsm2, hbl2⟩
  have c2 := hsm2.cell HSL.out b2
  have HW2 := Lib.hid hw2
  have HS2 := Lib.hid (HS1.out.trans hsm2)
  clear hw2 hsm2
  go_wp2_with fail
  refine (rwbytes_at2 S2 B g _ cmd _ w2 HW2.out (fun b hb => Nat.lt_of_lt_of_le (K.out.2.1 b hb) HS2.out.size) (HQ.out.keepS HS2.out) (by have := K.out; simp [be_length]; omega) (by have := K.out; omega)).mono ?_
  rintro _ w3 ⟨⟨v3, rfl⟩, hw3, hsm3, hbl3⟩
  have HW3 := Lib.hid hw3
  have HS3 := Lib.hid (HS2.out.trans hsm3)
  have HB3 := Lib.hid ((K.out.2.2.2.1.mono hBw).trans hbl1 |>.trans (hbl2.trans hbl3))
  clear hw3 hsm3 hbl1 hbl2 hbl3
  go_wp2_with fail
  go_end0
  refine ⟨⟨_, rfl⟩, ?_, Hbl0.out.trans (HS3.out.mono K.out.2.2.1), HB3.out⟩
  have h := HW3.out.mono (S' := S) K.out.2.2.1
  simpa [encE, List.append_assoc] using h

theorem epack_no {S : Nat → Prop} (e : Ent) (y : Value) (w : World) (hp : Bytes S w y e.cmd) (hr : rightB e = false) :
    Calls Try.prog 27 #[.agg #[.int .i64 e.kind, .int .i64 e.term, y]] w fun r w' => r = .returned (.tuple #[.slice none 0 0, .int .i64 1]) ∧ Below w.heap.size w w' := by
  obtain ⟨k, t, cmd⟩ := e
  simp only at hp ⊢
  have hb0 := fun o => box_below w o
  have HB := Lib.hid hb0
  have hR := fun o => right_any k t y cmd _ (hp.keep (box_below w o))
  rw [hr] at hR
  have HR := Lib.hid hR
  obtain ⟨A, c, rfl⟩ := hp.slice
  clear hb0 hR hr hp
  go_enter Try.func27, Try.ntmps27
  go_wp2_with (go_at_call 45; refine (HR.out _).mono ?_; rintro _ w1 ⟨rfl, hb⟩)
  go_ret2
  exact ⟨rfl, below_then (HB.out _) hb⟩

theorem qpack_no {S : Nat → Prop} (e : Ent) (y : Value) (w : World) (hp : Bytes S w y e.cmd) (hr : rightB e = false) :
    Calls Try.prog 28 #[.agg #[.int .i64 e.kind, .int .i64 e.term, y]] w fun r w' => r = .returned (.tuple #[.slice none 0 0, .int .i64 1]) ∧ Below w.heap.size w w' := by
  obtain ⟨k, t, cmd⟩ := e
  simp only at hp ⊢
  have hb0 := fun o => box_below w o
  have HB := Lib.hid hb0
  have hR := fun o => qright_any k t y cmd _ (hp.keep (box_below w o))
  rw [hr] at hR
  have HR := Lib.hid hR
  obtain ⟨A, c, rfl⟩ := hp.slice
  clear hb0 hR hr hp
  go_enter Try.func28, Try.ntmps28
  go_wp2_with (go_at_call 54; refine (HR.out _).mono ?_; rintro _ w1 ⟨rfl, hb⟩)
  go_ret2
  exact ⟨rfl, below_then (HB.out _) hb⟩

set_option maxHeartbeats 1000000 in
theorem epack_yes {S : Nat → Prop} (e : Ent) (y : Value) (w : World) (hp : Bytes S w y e.cmd) (hr : rightB e = true) :
    Calls Try.prog 27 #[.agg #[.int .i64 e.kind, .int .i64 e.term, y]] w fun r w' => ∃ v, r = .returned (.tuple #[v, .int .i64 0]) ∧ Bytes (w.heap.size ≤ ·) w' v (encE e) ∧ Below w.heap.size w w' := by
  obtain ⟨k0, k2, t1, t2, cl⟩ := rightB_facts hr
  obtain ⟨k, t, cmd⟩ := e
  simp only at k0 k2 t1 t2 cl hp ⊢
  have hb0 := fun o => box_below w o
  have HB := Lib.hid hb0
  have hR := fun o => right_any k t y cmd _ (hp.keep (box_below w o))
  rw [hr] at hR
  have HR := Lib.hid hR
  obtain ⟨A, c, rfl⟩ := hp.slice
  have hblkE := blk_new w (.cells #[.int .i64 k, .int .i64 t, .slice A cmd.length c] 33)
  obtain ⟨a0, a1, a2, _, _, _⟩ := cells3 hblkE
  have Hp := Lib.hid hp
  have Hr := Lib.hid (And.intro hr cl)
  clear hb0 hR hr hp hblkE cl
  go_enter Try.func27, Try.ntmps27
  go_wp2_with (go_at_call 45; refine (HR.out _).mono ?_; rintro _ w1 ⟨rfl, hb⟩; have b0 := cell_keep hb a0; have b1 := cell_keep hb a1; have b2 := cell_keep hb a2)
  refine (newWriter_any w1).mono ?_
  rintro _ _ ⟨rfl, rfl⟩
  have hbw := box_below w1 (.cells #[.slice none 0 0, .int .i64 0] 142)
  have hbl := box_below (w1.alloc (.cells #[.slice none 0 0, .int .i64 0] 142)) (.cells #[.pointer (some ⟨w1.heap.size, 0, none⟩)] 104)
  have h2 := (wrS_new 142 w1).grow hbl
  have hL := cells1 (blk_new (w1.alloc (.cells #[.slice none 0 0, .int .i64 0] 142)) (.cells #[.pointer (some ⟨w1.heap.size, 0, none⟩)] 104))
  rw [World.size_alloc] at hL
  have e0 := cell_keep hbl (cell_keep hbw b0)
  have e1 := cell_keep hbl (cell_keep hbw b1)
  have e2 := cell_keep hbl (cell_keep hbw b2)
  have hb2 : Below w.heap.size w ((w1.alloc (.cells #[.slice none 0 0, .int .i64 0] 142)).alloc (.cells #[.pointer (some ⟨w1.heap.size, 0, none⟩)] 104)) := below_alloc (below_alloc (below_then (HB.out _) hb) _) _
  have hz2 : ((w1.alloc (.cells #[.slice none 0 0, .int .i64 0] 142)).alloc (.cells #[.pointer (some ⟨w1.heap.size, 0, none⟩)] 104)).heap.size = w1.heap.size + 2 := by simp
  have hz1 : (w1.alloc (.cells #[.slice none 0 0, .int .i64 0] 142)).heap.size = w1.heap.size + 1 := by simp
  have hww : w.heap.size + 1 ≤ w1.heap.size := by have := hb.size; simpa using this
  rw [hz1, hz2] at h2
  have hq := Hp.out.keep hb2
  obtain ⟨W2, hW2⟩ : ∃ W2, (w1.alloc (.cells #[.slice none 0 0, .int .i64 0] 142)).alloc (.cells #[.pointer (some ⟨w1.heap.size, 0, none⟩)] 104) = W2 := ⟨_, rfl⟩
  rw [hW2] at h2 hL e0 e1 e2 hb2 hz2 hq
  obtain ⟨l0, lf⟩ := hL
  obtain ⟨S2, hS2⟩ : ∃ S2 : Nat → Prop, S2 = fun b => b < w1.heap.size ∨ w1.heap.size + 1 ≤ b ∧ b < w1.heap.size + 2 := ⟨_, rfl⟩
  rw [← hS2] at h2
  have hSL : S2 (w1.heap.size + 1) := by rw [hS2]; exact .inr ⟨Nat.le_refl _, by omega⟩
  have hS2w : ∀ b, S2 b → b < W2.heap.size := by
    intro b hb
    rw [hS2] at hb
    rw [hz2]
    rcases hb with hb | hb <;> omega
  have hlow : ∀ b, b < w.heap.size → S2 b := fun b hb => by rw [hS2]; exact .inl (by omega)
  have hq2 : Bytes S2 W2 (.slice A cmd.length c) cmd := (Hp.out.mono (T := S2) fun b hlt _ => hlow b hlt).keep hb2
  have HL := Lib.hid hSL
  have HB2 := Lib.hid hb2
  have HLow := Lib.hid hlow
  have Hhz := Lib.hid (And.intro hz2 hww)
  have HC := Lib.hid (lentry_ok S2 w1.heap.size w1.heap.size [] ⟨k, t, cmd⟩ _ W2 h2 hS2w hq2 Hr.out.1 (by simp))
  clear h2 hS2w hq2 hSL hS2 hlow hbw hbl hb2 hq hz2 hww hz1 lf hb b0 b1 b2
  go_wp2_with fail
  clear hW2
  refine HC.out.mono ?_
  rintro _ w3 ⟨⟨v3, rfl⟩, hw3, hsm3, hbl3⟩
  have l1 := hsm3.cell HL.out l0
  have hend := wend_ok w1.heap.size w1.heap.size _ w3 hw3.at_ (by simp [encE_length]; have := Hr.out.2; omega)
  have hb3 : Below w.heap.size w w3 := HB2.out.trans (hbl3.mono (by have := Hhz.out; omega))
  have Hend := Lib.hid hend
  have HB3 := Lib.hid hb3
  clear hw3 hsm3 hbl3 hend hb3
  go_wp2_with fail
  refine Hend.out.mono ?_
  rintro _ w4 ⟨v4, rfl, hy4, hb4⟩
  obtain ⟨A4, c4, rfl⟩ := hy4.slice
  have HY := Lib.hid (hy4.mono (T := (w.heap.size ≤ ·)) fun b _ h => Nat.le_trans HB3.out.size h)
  have HB4 := Lib.hid (below_then HB3.out hb4)
  clear hy4 hb4
  go_wp2_with fail
  go_ret2
  exact ⟨_, rfl, by simpa using HY.out, HB4.out⟩

set_option maxHeartbeats 1000000 in
theorem qpack_yes {S : Nat → Prop} (e : Ent) (y : Value) (w : World) (hp : Bytes S w y e.cmd) (hr : rightB e = true) :
    Calls Try.prog 28 #[.agg #[.int .i64 e.kind, .int .i64 e.term, y]] w fun r w' => ∃ v, r = .returned (.tuple #[v, .int .i64 0]) ∧ Bytes (w.heap.size ≤ ·) w' v (encE e) ∧ Below w.heap.size w w' := by
  obtain ⟨k0, k2, t1, t2, cl⟩ := rightB_facts hr
  obtain ⟨k, t, cmd⟩ := e
  simp only at k0 k2 t1 t2 cl hp ⊢
  have hb0 := fun o => box_below w o
  have HB := Lib.hid hb0
  have hR := fun o => qright_any k t y cmd _ (hp.keep (box_below w o))
  rw [hr] at hR
  have HR := Lib.hid hR
  obtain ⟨A, c, rfl⟩ := hp.slice
  have hblkE := blk_new w (.cells #[.int .i64 k, .int .i64 t, .slice A cmd.length c] 33)
  obtain ⟨a0, a1, a2, _, _, _⟩ := cells3 hblkE
  have Hp := Lib.hid hp
  have Hr := Lib.hid (And.intro hr cl)
  clear hb0 hR hr hp hblkE cl
  go_enter Try.func28, Try.ntmps28
  go_wp2_with (go_at_call 54; refine (HR.out _).mono ?_; rintro _ w1 ⟨rfl, hb⟩; have b0 := cell_keep hb a0; have b1 := cell_keep hb a1; have b2 := cell_keep hb a2; have bb0 := fun o => cell_keep (box_below w1 o) b0; have bb1 := fun o => cell_keep (box_below w1 o) b1; have bb2 := fun o => cell_keep (box_below w1 o) b2)
  have hbw := box_below w1 (.cells #[.slice none 0 0, .int .i64 0] 109)
  have hww : w.heap.size + 1 ≤ w1.heap.size := by have := hb.size; simpa using this
  have hb2 := below_alloc (below_then (HB.out _) hb) (.cells #[.slice none 0 0, .int .i64 0] 109)
  have hlow : ∀ b, b < w.heap.size → b < w1.heap.size := fun b hb => by omega
  have hq2 := (Hp.out.mono (T := (· < w1.heap.size)) fun b hlt _ => hlow b hlt).keep hb2
  have HC := Lib.hid (qput_ok (· < w1.heap.size) w1.heap.size w1.heap.size [] ⟨k, t, cmd⟩ _ _ (wrS_new 109 w1) (fun b hb => by simp; omega) hq2 Hr.out.1 (by simp))
  have HB2 := Lib.hid hb2
  have Hww := Lib.hid hww
  clear hbw hb2 hlow hq2 hww hb
  refine HC.out.mono ?_
  rintro _ w3 ⟨⟨v3, rfl⟩, hw3, hsm3, hbl3⟩
  have hend := rwend_ok w1.heap.size w1.heap.size _ w3 hw3.at_ (by simp [encE_length]; have := Hr.out.2; omega)
  have hb3 : Below w.heap.size w w3 := HB2.out.trans (hbl3.mono (by have := Hww.out; omega))
  have Hend := Lib.hid hend
  have HB3 := Lib.hid hb3
  clear hw3 hsm3 hbl3 hend hb3
  go_wp2_with fail
  refine Hend.out.mono ?_
  rintro _ w4 ⟨v4, rfl, hy4, hb4⟩
  have hy4 := RowAt.of_own hy4
  obtain ⟨A4, c4, rfl⟩ := hy4.slice
  have HY := Lib.hid (RowAt.mono hy4 (T := (w.heap.size ≤ ·)) fun b _ h => Nat.le_trans HB3.out.size h)
  have HB4 := Lib.hid (below_then HB3.out hb4)
  clear hy4 hb4
  go_wp2_with fail
  go_ret2
  exact ⟨_, rfl, by unfold Bytes; simpa using HY.out, HB4.out⟩
end Go.Proofs.Ytoaoldhajpbenaa

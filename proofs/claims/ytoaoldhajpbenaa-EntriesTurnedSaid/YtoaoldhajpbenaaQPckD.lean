/- Texts that belong together, in one file: PckA, PckB, PckC, PckD. No statement is proved here. -/
import Derived.Test.YtoaoldhajpbenaaQRefB
import Derived.Test.YtoaoldhajpbenaaQRefE
namespace Go.Proofs.Ytoaoldhajpbenaa
open Go.RowKit

theorem qcan_any (n : Int) (w : World) :
    Calls Try.prog 86 #[.int .i64 n] w fun e w' => e = .returned (.bool (mayB n)) ∧ w = w' := by
  go_enter Try.func86, Try.ntmps86
  go_wp2
  all_goals go_ret
  · rename_i h; exact ⟨by simp [mayB, h], rfl⟩
  · rename_i h; exact ⟨by simp [mayB]; omega, rfl⟩
theorem qmask_any (n : Int) (w : World) :
    Calls Try.prog 87 #[.int .i64 n] w fun e w' => e = .returned (.bool (maskB n)) ∧ w = w' := by
  go_enter Try.func87, Try.ntmps87
  go_wp2
  all_goals go_ret
  · rename_i h; exact ⟨by simp [maskB, h], rfl⟩
  · rename_i h; exact ⟨by simp [maskB]; omega, rfl⟩

set_option maxHeartbeats 2000000 in
theorem qright_any (k t : Int) (v : Value) (xs : List UInt8) {S : Nat → Prop} (w : World) (hv : Bytes S w v xs) :
    Calls Try.prog 54 #[.agg #[.int .i64 k, .int .i64 t, v]] w fun e w' => e = .returned (.bool (rightB ⟨k, t, xs⟩)) ∧ Below w.heap.size w w' := by
  by_cases h2 : k = 2 ∧ xs.length = 1
  · obtain ⟨rfl, hl⟩ := h2
    obtain ⟨b, o, c, rfl, hn, hc, _, hb, hcell⟩ := hv.form (by omega)
    have h0 := hcell 0 _ (byteCells_get xs 0 (by omega))
    rw [Nat.add_zero] at h0
    obtain ⟨x, rfl⟩ : ∃ x, xs = [x] := List.length_eq_one_iff.1 hl
    simp only [List.length_singleton, List.getElem_cons_zero] at h0 hn ⊢
    clear hcell
    cases hm : mayB t <;> cases hk : maskB (x.toNat : Int)
    all_goals
      by_cases ht : t < 1
      all_goals
        have hx := x.toNat_lt
        go_enter Try.func54, Try.ntmps54
        go_wp2_with (first | (go_at_call 86; refine (qcan_any _ _).mono ?_; rintro e w' ⟨rfl, rfl⟩) | (go_at_call 87; refine (qmask_any _ _).mono ?_; rintro e w' ⟨rfl, rfl⟩))
        all_goals go_ret
        all_goals refine ⟨?_, box_below _ _⟩
        all_goals first | (simp [rightB, hm, hk]; done) | (simp [rightB, hm, hk]; omega)
  · obtain ⟨A, c, rfl⟩ := hv.slice
    have hle := hv.le
    unfold maxLen at hle
    by_cases k0 : k < 0
    · go_enter Try.func54, Try.ntmps54
      go_wp2_with fail
      go_ret
      exact ⟨by simp [rightB]; omega, box_below _ _⟩
    · by_cases k2 : k > 2
      · go_enter Try.func54, Try.ntmps54
        go_wp2_with fail
        go_ret
        exact ⟨by simp [rightB]; omega, box_below _ _⟩
      · by_cases ht : t < 1
        · go_enter Try.func54, Try.ntmps54
          go_wp2_with fail
          go_ret
          exact ⟨by simp [rightB]; omega, box_below _ _⟩
        · cases hm : mayB t
          · go_enter Try.func54, Try.ntmps54
            go_wp2_with (go_at_call 86; refine (qcan_any _ _).mono ?_; rintro e w' ⟨rfl, rfl⟩)
            go_ret
            exact ⟨by simp [rightB, hm], box_below _ _⟩
          · by_cases hl : (xs.length : Int) > 4080
            · go_enter Try.func54, Try.ntmps54
              go_wp2_with (go_at_call 86; refine (qcan_any _ _).mono ?_; rintro e w' ⟨rfl, rfl⟩)
              go_ret
              have : rightB ⟨k, t, xs⟩ = false := by
                have : decide (xs.length ≤ 4080) = false := by simp; omega
                simp only [rightB, this, Bool.and_false, Bool.false_and]
              exact ⟨by rw [this]; rfl, box_below _ _⟩
            · by_cases hk2 : k = 2
              · subst hk2
                have hl1 : ((xs.length : Int) == 1) = false := by simp; omega
                have hr : rightB ⟨2, t, xs⟩ = false := by
                  have : decide (xs.length = 1) = false := by simp; omega
                  simp [rightB, this]
                have Hr := Lib.hid hr
                clear hr
                go_enter Try.func54, Try.ntmps54
                go_wp2_with (go_at_call 86; refine (qcan_any _ _).mono ?_; rintro e w' ⟨rfl, rfl⟩)
                go_ret
                exact ⟨by rw [Hr.out]; rfl, box_below _ _⟩
              · have hk1 : (k != 2) = true := by simpa using hk2
                go_enter Try.func54, Try.ntmps54
                go_wp2_with (go_at_call 86; refine (qcan_any _ _).mono ?_; rintro e w' ⟨rfl, rfl⟩)
                go_ret
                refine ⟨?_, box_below _ _⟩
                have h01 : k = 0 ∨ k = 1 := by omega
                have hl' : xs.length ≤ 4080 := by omega
                have ht' : 1 ≤ t := by omega
                have : rightB ⟨k, t, xs⟩ = true := by rcases h01 with rfl | rfl <;> simp [rightB, hm, hl', ht']
                rw [this]
                simp []

/-- An entry as bytes. -/
def encE (e : Ent) : List UInt8 := be 1 (e.kind + 64).toNat ++ be 6 e.term.toNat ++ be 2 e.cmd.length ++ e.cmd
theorem encE_length (e : Ent) : (encE e).length = 9 + e.cmd.length := by simp [encE, be_length]; omega
theorem rightB_facts {e : Ent} (h : rightB e = true) : 0 ≤ e.kind ∧ e.kind ≤ 2 ∧ 1 ≤ e.term ∧ e.term ≤ 1099511627776 ∧ e.cmd.length ≤ 4080 := by
  simp [rightB, mayB] at h
  omega

set_option maxHeartbeats 1000000 in
/-- An entry behind what a letter holds. -/
theorem lentry_ok (S : Nat → Prop) (B g : Nat) (xs : List UInt8) (e : Ent) (y : Value) (w : World) (h : WrS 142 S B w g xs 0) (hS : ∀ b, S b → b < w.heap.size) (hp : Bytes S w y e.cmd) (hr : rightB e = true) (hx : xs.length ≤ 90000000) :
    Calls Try.prog 52 #[.agg #[.pointer (some ⟨g, 0, none⟩)], .agg #[.int .i64 e.kind, .int .i64 e.term, y]] w fun r w' => (∃ v, r = .returned v) ∧ WrS 142 S B w' g (xs ++ encE e) 0 ∧ Same S w w' ∧ Below B w w' := by
  obtain ⟨k0, k2, t1, t2, cl⟩ := rightB_facts hr
  obtain ⟨hB, -⟩ := id h
  have hBw : B ≤ w.heap.size := by obtain ⟨-, -, v, hblk, -⟩ := h; have := (Array.getElem?_eq_some_iff.1 hblk).1; omega
  obtain ⟨k, t, cmd⟩ := e
  simp only at k0 k2 t1 t2 cl hp ⊢
  obtain ⟨A, c, rfl⟩ := hp.slice
  have hb0 := box_below w (.cells #[.pointer (some ⟨g, 0, none⟩)] 104)
  have hb1 := hb0.alloc hb0.size (.cells #[.int .i64 k, .int .i64 t, .slice A cmd.length c] 33)
  have hblkL := blk_alloc (blk_new w (.cells #[.pointer (some ⟨g, 0, none⟩)] 104)) (.cells #[.int .i64 k, .int .i64 t, .slice A cmd.length c] 33)
  have hblkE := blk_new (w.alloc (.cells #[.pointer (some ⟨g, 0, none⟩)] 104)) (.cells #[.int .i64 k, .int .i64 t, .slice A cmd.length c] 33)
  rw [World.size_alloc] at hblkE
  obtain ⟨l0, lf0⟩ := cells1 hblkL
  obtain ⟨a0, a1, a2, _, _, _⟩ := cells3 hblkE
  have HG := h.grow hb1
  have hs2 : ((w.alloc (.cells #[.pointer (some ⟨g, 0, none⟩)] 104)).alloc (.cells #[.int .i64 k, .int .i64 t, .slice A cmd.length c] 33)).heap.size = w.heap.size + 2 := by simp
  rw [hs2] at HG
  have hq : Bytes (fun b => S b ∨ w.heap.size ≤ b ∧ b < w.heap.size + 2) _ _ cmd := (hp.keep hb1).mono fun b _ h => Or.inl h
  obtain ⟨W0, hW0⟩ : ∃ W0, (w.alloc (.cells #[.pointer (some ⟨g, 0, none⟩)] 104)).alloc (.cells #[.int .i64 k, .int .i64 t, .slice A cmd.length c] 33) = W0 := ⟨_, rfl⟩
  rw [hW0] at hb1 l0 a0 a1 a2 HG hs2 hq
  obtain ⟨S2, hS2⟩ : ∃ S2 : Nat → Prop, S2 = fun b => S b ∨ w.heap.size ≤ b ∧ b < w.heap.size + 2 := ⟨_, rfl⟩
  rw [← hS2] at HG hq
  have hSL : S2 w.heap.size := by rw [hS2]; exact .inr ⟨Nat.le_refl _, by omega⟩
  have hSE : S2 (w.heap.size + 1) := by rw [hS2]; exact .inr ⟨by omega, by omega⟩
  have hS2w : ∀ b, S2 b → b < W0.heap.size := by
    intro b hb
    rw [hS2] at hb
    rw [hs2]
    rcases hb with hb | hb
    · have := hS b hb; omega
    · omega
  have hSS2 : ∀ b, S b → S2 b := fun b hb => by rw [hS2]; exact .inl hb
  have K := Lib.hid (And.intro hW0 (And.intro hS2w (And.intro hSS2 (And.intro hb1 (And.intro hx cl)))))
  have HQ := Lib.hid hq
  have HSL := Lib.hid (And.intro hSL hSE)
  have HH := Lib.hid HG
  have Hbl0 := Lib.hid (Same.of_below' hb1 S)
  clear h hS hp hr hb0 hb1 hblkL hblkE HG hs2 hq hS2 hSL hSE hS2w hSS2 hx cl lf0
  go_enter Try.func52, Try.ntmps52
  go_wp2_with fail
  clear hW0
  refine (wnum_at1 S2 B g xs (k + 64) W0 HH.out K.out.2.1 (by omega) (by omega) (by have := K.out; omega)).mono ?_
  rintro _ w1 ⟨⟨v1, rfl⟩, hw1, hsm1, hbl1⟩
  have l0' := hsm1.cell HSL.out.1 l0
  have b1 := hsm1.cell HSL.out.2 a1
  have b2 := hsm1.cell HSL.out.2 a2
  have HW1 := Lib.hid hw1
  have HS1 := Lib.hid hsm1
  clear hw1 hsm1
  go_wp2_with fail
  refine (wnum_at6 S2 B g _ t w1 HW1.out (fun b hb => Nat.lt_of_lt_of_le (K.out.2.1 b hb) HS1.out.size) (by omega) (by omega) (by have := K.out; simp [be_length]; omega)).mono ?_
  rintro _ w2 ⟨⟨v2, rfl⟩, hw2, hsm2, hbl2⟩
  have l0'' := hsm2.cell HSL.out.1 l0'
  have c2 := hsm2.cell HSL.out.2 b2
  have HW2 := Lib.hid hw2
  have HS2 := Lib.hid (HS1.out.trans hsm2)
  clear hw2 hsm2
  go_wp2_with fail
  refine (wbytes_at2 S2 B g _ cmd _ w2 HW2.out (fun b hb => Nat.lt_of_lt_of_le (K.out.2.1 b hb) HS2.out.size) (HQ.out.keepS HS2.out) (by have := K.out; simp [be_length]; omega) (by have := K.out; omega)).mono ?_
  rintro _ w3 ⟨⟨v3, rfl⟩, hw3, hsm3, hbl3⟩
  have HW3 := Lib.hid hw3
  have HS3 := Lib.hid (HS2.out.trans hsm3)
  have HB3 := Lib.hid (((K.out.2.2.2.1.mono hBw).trans hbl1).trans (hbl2.trans hbl3))
  clear hw3 hsm3 hbl1 hbl2 hbl3
  go_wp2_with fail
  go_end0
  refine ⟨⟨_, rfl⟩, ?_, Hbl0.out.trans (HS3.out.mono K.out.2.2.1), HB3.out⟩
  have h := HW3.out.mono (S' := S) K.out.2.2.1
  simpa [encE, List.append_assoc] using h
end Go.Proofs.Ytoaoldhajpbenaa

namespace Go.Proofs.Ytoaoldhajpbenaa
open Go.RowKit

set_option maxHeartbeats 1000000 in
theorem qput_ok (S : Nat → Prop) (B g : Nat) (xs : List UInt8) (e : Ent) (y : Value) (w : World) (h : WrS 109 S B w g xs 0) (hS : ∀ b, S b → b < w.heap.size) (hp : Bytes S w y e.cmd) (hr : rightB e = true) (hx : xs.length ≤ 90000000) :
    Calls Try.prog 55 #[.pointer (some ⟨g, 0, none⟩), .agg #[.int .i64 e.kind, .int .i64 e.term, y]] w fun r w' => (∃ v, r = .returned v) ∧ WrS 109 S B w' g (xs ++ encE e) 0 ∧ Same S w w' ∧ Below B w w' := by
  obtain ⟨k0, k2, t1, t2, cl⟩ := rightB_facts hr
  obtain ⟨hB, -⟩ := id h
  have hBw : B ≤ w.heap.size := by obtain ⟨-, -, v, hblk, -⟩ := h; have := (Array.getElem?_eq_some_iff.1 hblk).1; omega
  obtain ⟨k, t, cmd⟩ := e
  simp only at k0 k2 t1 t2 cl hp ⊢
  obtain ⟨A, c, rfl⟩ := hp.slice
  have hb1 := box_below w (.cells #[.int .i64 k, .int .i64 t, .slice A cmd.length c] 33)
  have hblkE := blk_new w (.cells #[.int .i64 k, .int .i64 t, .slice A cmd.length c] 33)
  obtain ⟨a0, a1, a2, _, _, _⟩ := cells3 hblkE
  have HG := h.grow hb1
  have hs2 : (w.alloc (.cells #[.int .i64 k, .int .i64 t, .slice A cmd.length c] 33)).heap.size = w.heap.size + 1 := by simp
  rw [hs2] at HG
  have hq : Bytes (fun b => S b ∨ w.heap.size ≤ b ∧ b < w.heap.size + 1) _ _ cmd := (hp.keep hb1).mono fun b _ h => Or.inl h
  obtain ⟨W0, hW0⟩ : ∃ W0, w.alloc (.cells #[.int .i64 k, .int .i64 t, .slice A cmd.length c] 33) = W0 := ⟨_, rfl⟩
  rw [hW0] at hb1 a0 a1 a2 HG hs2 hq
  obtain ⟨S2, hS2⟩ : ∃ S2 : Nat → Prop, S2 = fun b => S b ∨ w.heap.size ≤ b ∧ b < w.heap.size + 1 := ⟨_, rfl⟩
  rw [← hS2] at HG hq
  have hSE : S2 w.heap.size := by rw [hS2]; exact .inr ⟨by omega, by omega⟩
  have hS2w : ∀ b, S2 b → b < W0.heap.size := by
    intro b hb
    rw [hS2] at hb
    rw [hs2]
    rcases hb with hb | hb
    · have := hS b hb; omega
    · omega
  have hSS2 : ∀ b, S b → S2 b := fun b hb => by rw [hS2]; exact .inl hb
  have K := Lib.hid (And.intro hW0 (And.intro hS2w (And.intro hSS2 (And.intro hb1 (And.intro hx cl)))))
  have HQ := Lib.hid hq
  have HSL := Lib.hid hSE
  have HH := Lib.hid HG
  have Hbl0 := Lib.hid (Same.of_below' hb1 S)
  clear h hS hp hr hb1 hblkE HG hs2 hq hS2 hSE hS2w hSS2 hx cl
  go_enter Try.func55, Try.ntmps55
  go_wp2_with fail
  clear hW0
  refine (rwnum_at1 S2 B g xs (k + 64) W0 HH.out K.out.2.1 (by omega) (by omega) (by have := K.out; omega)).mono ?_
  rintro _ w1 ⟨⟨v1, rfl⟩, hw1, hsm1, hbl1⟩
  have b1 := hsm1.cell HSL.out a1
  have b2 := hsm1.cell HSL.out a2
  have HW1 := Lib.hid hw1
  have HS1 := Lib.hid hsm1
  clear hw1 hsm1
  go_wp2_with fail
  refine (rwnum_at6 S2 B g _ t w1 HW1.out (fun b hb => Nat.lt_of_lt_of_le (K.out.2.1 b hb) HS1.out.size) (by omega) (by omega) (by have := K.out; simp [be_length]; omega)).mono ?_
  rintro _ w2 ⟨⟨v2, rfl⟩, hw2, hsm2, hbl2⟩
  have c2 := hsm2.cell HSL.out b2
  have HW2 := Lib.hid hw2
  have HS2 := Lib.hid (HS1.out.trans hsm2)
  clear hw2 hsm2
  go_wp2_with fail
  refine (rwbytes_at2 S2 B g _ cmd _ w2 HW2.out (fun b hb => Nat.lt_of_lt_of_le (K.out.2.1 b hb) HS2.out.size) (HQ.out.keepS HS2.out) (by have := K.out; simp [be_length]; omega) (by have := K.out; omega)).mono ?_
  rintro _ w3 ⟨⟨v3, rfl⟩, hw3, hsm3, hbl3⟩
  have HW3 := Lib.hid hw3
  have HS3 := Lib.hid (HS2.out.trans hsm3)
  have HB3 := Lib.hid ((K.out.2.2.2.1.mono hBw).trans hbl1 |>.trans (hbl2.trans hbl3))
  clear hw3 hsm3 hbl1 hbl2 hbl3
  go_wp2_with fail
  go_end0
  refine ⟨⟨_, rfl⟩, ?_, Hbl0.out.trans (HS3.out.mono K.out.2.2.1), HB3.out⟩
  have h := HW3.out.mono (S' := S) K.out.2.2.1
  simpa [encE, List.append_assoc] using h

theorem epack_no {S : Nat → Prop} (e : Ent) (y : Value) (w : World) (hp : Bytes S w y e.cmd) (hr : rightB e = false) :
    Calls Try.prog 27 #[.agg #[.int .i64 e.kind, .int .i64 e.term, y]] w fun r w' => r = .returned (.tuple #[.slice none 0 0, .int .i64 1]) ∧ Below w.heap.size w w' := by
  obtain ⟨k, t, cmd⟩ := e
  simp only at hp ⊢
  have hb0 := fun o => box_below w o
  have HB := Lib.hid hb0
  have hR := fun o => right_any k t y cmd _ (hp.keep (box_below w o))
  rw [hr] at hR
  have HR := Lib.hid hR
  obtain ⟨A, c, rfl⟩ := hp.slice
  clear hb0 hR hr hp
  go_enter Try.func27, Try.ntmps27
  go_wp2_with (go_at_call 45; refine (HR.out _).mono ?_; rintro _ w1 ⟨rfl, hb⟩)
  go_ret2
  exact ⟨rfl, below_then (HB.out _) hb⟩

theorem qpack_no {S : Nat → Prop} (e : Ent) (y : Value) (w : World) (hp : Bytes S w y e.cmd) (hr : rightB e = false) :
    Calls Try.prog 28 #[.agg #[.int .i64 e.kind, .int .i64 e.term, y]] w fun r w' => r = .returned (.tuple #[.slice none 0 0, .int .i64 1]) ∧ Below w.heap.size w w' := by
  obtain ⟨k, t, cmd⟩ := e
  simp only at hp ⊢
  have hb0 := fun o => box_below w o
  have HB := Lib.hid hb0
  have hR := fun o => qright_any k t y cmd _ (hp.keep (box_below w o))
  rw [hr] at hR
  have HR := Lib.hid hR
  obtain ⟨A, c, rfl⟩ := hp.slice
  clear hb0 hR hr hp
  go_enter Try.func28, Try.ntmps28
  go_wp2_with (go_at_call 54; refine (HR.out _).mono ?_; rintro _ w1 ⟨rfl, hb⟩)
  go_ret2
  exact ⟨rfl, below_then (HB.out _) hb⟩

set_option maxHeartbeats 1000000 in
theorem epack_yes {S : Nat → Prop} (e : Ent) (y : Value) (w : World) (hp : Bytes S w y e.cmd) (hr : rightB e = true) :
    Calls Try.prog 27 #[.agg #[.int .i64 e.kind, .int .i64 e.term, y]] w fun r w' => ∃ v, r = .returned (.tuple #[v, .int .i64 0]) ∧ Bytes (w.heap.size ≤ ·) w' v (encE e) ∧ Below w.heap.size w w' := by
  obtain ⟨k0, k2, t1, t2, cl⟩ := rightB_facts hr
  obtain ⟨k, t, cmd⟩ := e
  simp only at k0 k2 t1 t2 cl hp ⊢
  have hb0 := fun o => box_below w o
  have HB := Lib.hid hb0
  have hR := fun o => right_any k t y cmd _ (hp.keep (box_below w o))
  rw [hr] at hR
  have HR := Lib.hid hR
  obtain ⟨A, c, rfl⟩ := hp.slice
  have hblkE := blk_new w (.cells #[.int .i64 k, .int .i64 t, .slice A cmd.length c] 33)
  obtain ⟨a0, a1, a2, _, _, _⟩ := cells3 hblkE
  have Hp := Lib.hid hp
  have Hr := Lib.hid (And.intro hr cl)
  clear hb0 hR hr hp hblkE cl
  go_enter Try.func27, Try.ntmps27
  go_wp2_with (go_at_call 45; refine (HR.out _).mono ?_; rintro _ w1 ⟨rfl, hb⟩; have b0 := cell_keep hb a0; have b1 := cell_keep hb a1; have b2 := cell_keep hb a2)
  refine (newWriter_any w1).mono ?_
  rintro _ _ ⟨rfl, rfl⟩
  have hbw := box_below w1 (.cells #[.slice none 0 0, .int .i64 0] 142)
  have hbl := box_below (w1.alloc (.cells #[.slice none 0 0, .int .i64 0] 142)) (.cells #[.pointer (some ⟨w1.heap.size, 0, none⟩)] 104)
  have h2 := (wrS_new 142 w1).grow hbl
  have hL := cells1 (blk_new (w1.alloc (.cells #[.slice none 0 0, .int .i64 0] 142)) (.cells #[.pointer (some ⟨w1.heap.size, 0, none⟩)] 104))
  rw [World.size_alloc] at hL
  have e0 := cell_keep hbl (cell_keep hbw b0)
  have e1 := cell_keep hbl (cell_keep hbw b1)
  have e2 := cell_keep hbl (cell_keep hbw b2)
  have hb2 : Below w.heap.size w ((w1.alloc (.cells #[.slice none 0 0, .int .i64 0] 142)).alloc (.cells #[.pointer (some ⟨w1.heap.size, 0, none⟩)] 104)) := below_alloc (below_alloc (below_then (HB.out _) hb) _) _
  have hz2 : ((w1.alloc (.cells #[.slice none 0 0, .int .i64 0] 142)).alloc (.cells #[.pointer (some ⟨w1.heap.size, 0, none⟩)] 104)).heap.size = w1.heap.size + 2 := by simp
  have hz1 : (w1.alloc (.cells #[.slice none 0 0, .int .i64 0] 142)).heap.size = w1.heap.size + 1 := by simp
  have hww : w.heap.size + 1 ≤ w1.heap.size := by have := hb.size; simpa using this
  rw [hz1, hz2] at h2
  have hq := Hp.out.keep hb2
  obtain ⟨W2, hW2⟩ : ∃ W2, (w1.alloc (.cells #[.slice none 0 0, .int .i64 0] 142)).alloc (.cells #[.pointer (some ⟨w1.heap.size, 0, none⟩)] 104) = W2 := ⟨_, rfl⟩
  rw [hW2] at h2 hL e0 e1 e2 hb2 hz2 hq
  obtain ⟨l0, lf⟩ := hL
  obtain ⟨S2, hS2⟩ : ∃ S2 : Nat → Prop, S2 = fun b => b < w1.heap.size ∨ w1.heap.size + 1 ≤ b ∧ b < w1.heap.size + 2 := ⟨_, rfl⟩
  rw [← hS2] at h2
  have hSL : S2 (w1.heap.size + 1) := by rw [hS2]; exact .inr ⟨Nat.le_refl _, by omega⟩
  have hS2w : ∀ b, S2 b → b < W2.heap.size := by
    intro b hb
    rw [hS2] at hb
    rw [hz2]
    rcases hb with hb | hb <;> omega
  have hlow : ∀ b, b < w.heap.size → S2 b := fun b hb => by rw [hS2]; exact .inl (by omega)
  have hq2 : Bytes S2 W2 (.slice A cmd.length c) cmd := (Hp.out.mono (T := S2) fun b hlt _ => hlow b hlt).keep hb2
  have HL := Lib.hid hSL
  have HB2 := Lib.hid hb2
  have HLow := Lib.hid hlow
  have Hhz := Lib.hid (And.intro hz2 hww)
  have HC := Lib.hid (lentry_ok S2 w1.heap.size w1.heap.size [] ⟨k, t, cmd⟩ _ W2 h2 hS2w hq2 Hr.out.1 (by simp))
  clear h2 hS2w hq2 hSL hS2 hlow hbw hbl hb2 hq hz2 hww hz1 lf hb b0 b1 b2
  go_wp2_with fail
  clear hW2
  refine HC.out.mono ?_
  rintro _ w3 ⟨⟨v3, rfl⟩, hw3, hsm3, hbl3⟩
  have l1 := hsm3.cell HL.out l0
  have hend := wend_ok w1.heap.size w1.heap.size _ w3 hw3.at_ (by simp [encE_length]; have := Hr.out.2; omega)
  have hb3 : Below w.heap.size w w3 := HB2.out.trans (hbl3.mono (by have := Hhz.out; omega))
  have Hend := Lib.hid hend
  have HB3 := Lib.hid hb3
  clear hw3 hsm3 hbl3 hend hb3
  go_wp2_with fail
  refine Hend.out.mono ?_
  rintro _ w4 ⟨v4, rfl, hy4, hb4⟩
  obtain ⟨A4, c4, rfl⟩ := hy4.slice
  have HY := Lib.hid (hy4.mono (T := (w.heap.size ≤ ·)) fun b _ h => Nat.le_trans HB3.out.size h)
  have HB4 := Lib.hid (below_then HB3.out hb4)
  clear hy4 hb4
  go_wp2_with fail
  go_ret2
  exact ⟨_, rfl, by simpa using HY.out, HB4.out⟩

set_option maxHeartbeats 1000000 in
theorem qpack_yes {S : Nat → Prop} (e : Ent) (y : Value) (w : World) (hp : Bytes S w y e.cmd) (hr : rightB e = true) :
    Calls Try.prog 28 #[.agg #[.int .i64 e.kind, .int .i64 e.term, y]] w fun r w' => ∃ v, r = .returned (.tuple #[v, .int .i64 0]) ∧ Bytes (w.heap.size ≤ ·) w' v (encE e) ∧ Below w.heap.size w w' := by
  obtain ⟨k0, k2, t1, t2, cl⟩ := rightB_facts hr
  obtain ⟨k, t, cmd⟩ := e
  simp only at k0 k2 t1 t2 cl hp ⊢
  have hb0 := fun o => box_below w o
  have HB := Lib.hid hb0
  have hR := fun o => qright_any k t y cmd _ (hp.keep (box_below w o))
  rw [hr] at hR
  have HR := Lib.hid hR
  obtain ⟨A, c, rfl⟩ := hp.slice
  have hblkE := blk_new w (.cells #[.int .i64 k, .int .i64 t, .slice A cmd.length c] 33)
  obtain ⟨a0, a1, a2, _, _, _⟩ := cells3 hblkE
  have Hp := Lib.hid hp
  have Hr := Lib.hid (And.intro hr cl)
  clear hb0 hR hr hp hblkE cl
  go_enter Try.func28, Try.ntmps28
  go_wp2_with (go_at_call 54; refine (HR.out _).mono ?_; rintro _ w1 ⟨rfl, hb⟩; have b0 := cell_keep hb a0; have b1 := cell_keep hb a1; have b2 := cell_keep hb a2; have bb0 := fun o => cell_keep (box_below w1 o) b0; have bb1 := fun o => cell_keep (box_below w1 o) b1; have bb2 := fun o => cell_keep (box_below w1 o) b2)
  have hbw := box_below w1 (.cells #[.slice none 0 0, .int .i64 0] 109)
  have hww : w.heap.size + 1 ≤ w1.heap.size := by have := hb.size; simpa using this
  have hb2 := below_alloc (below_then (HB.out _) hb) (.cells #[.slice none 0 0, .int .i64 0] 109)
  have hlow : ∀ b, b < w.heap.size → b < w1.heap.size := fun b hb => by omega
  have hq2 := (Hp.out.mono (T := (· < w1.heap.size)) fun b hlt _ => hlow b hlt).keep hb2
  have HC := Lib.hid (qput_ok (· < w1.heap.size) w1.heap.size w1.heap.size [] ⟨k, t, cmd⟩ _ _ (wrS_new 109 w1) (fun b hb => by simp; omega) hq2 Hr.out.1 (by simp))
  have HB2 := Lib.hid hb2
  have Hww := Lib.hid hww
  clear hbw hb2 hlow hq2 hww hb
  refine HC.out.mono ?_
  rintro _ w3 ⟨⟨v3, rfl⟩, hw3, hsm3, hbl3⟩
  have hend := rwend_ok w1.heap.size w1.heap.size _ w3 hw3.at_ (by simp [encE_length]; have := Hr.out.2; omega)
  have hb3 : Below w.heap.size w w3 := HB2.out.trans (hbl3.mono (by have := Hww.out; omega))
  have Hend := Lib.hid hend
  have HB3 := Lib.hid hb3
  clear hw3 hsm3 hbl3 hend hb3
  go_wp2_with fail
  refine Hend.out.mono ?_
  rintro _ w4 ⟨v4, rfl, hy4, hb4⟩
  have hy4 := RowAt.of_own hy4
  obtain ⟨A4, c4, rfl⟩ := hy4.slice
  have HY := Lib.hid (RowAt.mono hy4 (T := (w.heap.size ≤ ·)) fun b _ h => Nat.le_trans HB3.out.size h)
  have HB4 := Lib.hid (below_then HB3.out hb4)
  clear hy4 hb4
  go_wp2_with fail
  go_ret2
  exact ⟨_, rfl, by unfold Bytes; simpa using HY.out, HB4.out⟩
end Go.Proofs.Ytoaoldhajpbenaa

namespace Go.Proofs.Ytoaoldhajpbenaa
open Go.RowKit

/-- What a reader has: its bytes, its error. A number, bytes, an entry, and what is left. -/
def rdNum (size : Nat) (st : List UInt8 × Int) : Int × (List UInt8 × Int) :=
  if st.2 ≠ 0 then (0, st) else if st.1.length < size then (0, (st.1, 10)) else ((beVal (st.1.take size) : Nat), (st.1.drop size, 0))
def rdBytes (size : Nat) (st : List UInt8 × Int) : List UInt8 × (List UInt8 × Int) :=
  if st.2 ≠ 0 then ([], st) else if (cutOf size st.1).2.2 ≠ 0 then ([], (st.1, (cutOf size st.1).2.2)) else ((cutOf size st.1).1, (st.1.drop (cutOf size st.1).2.1, 0))
def rdEnt (st : List UInt8 × Int) : Ent × (List UInt8 × Int) :=
  (⟨(rdNum 1 st).1 - 64, (rdNum 6 (rdNum 1 st).2).1, (rdBytes 2 (rdNum 6 (rdNum 1 st).2).2).1⟩, (rdBytes 2 (rdNum 6 (rdNum 1 st).2).2).2)

theorem rdNum_len (size : Nat) (st : List UInt8 × Int) : (rdNum size st).2.1.length ≤ st.1.length := by
  unfold rdNum
  by_cases h : st.2 ≠ 0
  · rw [if_pos h]; exact Nat.le_refl _
  · rw [if_neg h]
    by_cases h2 : st.1.length < size
    · rw [if_pos h2]; exact Nat.le_refl _
    · rw [if_neg h2]; simp
theorem rdNum_lt (size : Nat) (st : List UInt8 × Int) : 0 ≤ (rdNum size st).1 ∧ (rdNum size st).1 < ((256 ^ size : Nat) : Int) := by
  have hp : 0 < 256 ^ size := Nat.pow_pos (by omega)
  unfold rdNum
  by_cases h : st.2 ≠ 0
  · rw [if_pos h]; exact ⟨Int.le_refl _, by show (0 : Int) < _; omega⟩
  · rw [if_neg h]
    by_cases h2 : st.1.length < size
    · rw [if_pos h2]; exact ⟨Int.le_refl _, by show (0 : Int) < _; omega⟩
    · rw [if_neg h2]
      have := beVal_lt (st.1.take size)
      rw [List.length_take, Nat.min_eq_left (by omega)] at this
      exact ⟨by show (0 : Int) ≤ ((beVal (st.1.take size) : Nat) : Int); omega, by show ((beVal (st.1.take size) : Nat) : Int) < _; omega⟩
theorem rdBytes_len (size : Nat) (st : List UInt8 × Int) : (rdBytes size st).2.1.length ≤ st.1.length := by
  unfold rdBytes
  by_cases h : st.2 ≠ 0
  · rw [if_pos h]; exact Nat.le_refl _
  · rw [if_neg h]
    by_cases h2 : (cutOf size st.1).2.2 ≠ 0
    · rw [if_pos h2]; exact Nat.le_refl _
    · rw [if_neg h2]; simp

theorem rnum_any (S : Nat → Prop) (g : Nat) (xs : List UInt8) (er : Int) (size : Nat) (w : World) (h : RdAt 143 S w g xs er) (h1 : 1 ≤ size) (h8 : size ≤ 7) :
    Calls Try.prog 74 #[.pointer (some ⟨g, 0, none⟩), .int .i64 size] w fun e w' => e = .returned (.int .i64 (rdNum size (xs, er)).1) ∧ RdAt 143 S w' g (rdNum size (xs, er)).2.1 (rdNum size (xs, er)).2.2 ∧ w.grownBy w' (some g) := by
  unfold rdNum
  by_cases he : er ≠ 0
  · rw [if_pos he]
    exact (rnum_err S g xs er size w h he).mono (by rintro _ _ ⟨rfl, rfl⟩; exact ⟨rfl, h, grown_refl _ _⟩)
  · rw [if_neg he]
    obtain rfl : er = 0 := by omega
    by_cases h2 : xs.length < size
    · rw [if_pos h2]; exact rnum_short S g xs size w h h1 (by omega) h2
    · rw [if_neg h2]; exact rnum_ok S g xs size w h h1 h8 (by omega)
theorem rrnum_any (S : Nat → Prop) (g : Nat) (xs : List UInt8) (er : Int) (size : Nat) (w : World) (h : RdAt 133 S w g xs er) (h1 : 1 ≤ size) (h8 : size ≤ 7) :
    Calls Try.prog 78 #[.pointer (some ⟨g, 0, none⟩), .int .i64 size] w fun e w' => e = .returned (.int .i64 (rdNum size (xs, er)).1) ∧ RdAt 133 S w' g (rdNum size (xs, er)).2.1 (rdNum size (xs, er)).2.2 ∧ w.grownBy w' (some g) := by
  unfold rdNum
  by_cases he : er ≠ 0
  · rw [if_pos he]
    exact (rrnum_err S g xs er size w h he).mono (by rintro _ _ ⟨rfl, rfl⟩; exact ⟨rfl, h, grown_refl _ _⟩)
  · rw [if_neg he]
    obtain rfl : er = 0 := by omega
    by_cases h2 : xs.length < size
    · rw [if_pos h2]; exact rrnum_short S g xs size w h h1 (by omega) h2
    · rw [if_neg h2]; exact rrnum_ok S g xs size w h h1 h8 (by omega)
theorem rbytes_any (S : Nat → Prop) (g : Nat) (xs : List UInt8) (er : Int) (size : Nat) (w : World) (h : RdAt 143 S w g xs er) (hs : size = 1 ∨ size = 2 ∨ size = 4) :
    Calls Try.prog 76 #[.pointer (some ⟨g, 0, none⟩), .int .i64 size] w fun e w' => ∃ u, e = .returned u ∧ w'.ownsRow w.heap.size 5 1 u (rdBytes size (xs, er)).1.length (byteCells (rdBytes size (xs, er)).1) ∧ RdAt 143 S w' g (rdBytes size (xs, er)).2.1 (rdBytes size (xs, er)).2.2 ∧ w.grownBy w' (some g) := by
  unfold rdBytes
  by_cases he : er ≠ 0
  · rw [if_pos he]
    exact (rbytes_err S g xs er size w h he).mono (by rintro _ _ ⟨rfl, rfl⟩; exact ⟨_, rfl, World.ownsRow_nil _ _ _ _, h, grown_refl _ _⟩)
  · rw [if_neg he]
    obtain rfl : er = 0 := by omega
    by_cases h2 : (cutOf size xs).2.2 ≠ 0
    · rw [if_pos h2]
      exact (rbytes_no S g xs size w h hs h2).mono (by rintro _ _ ⟨rfl, h1, h2⟩; exact ⟨_, rfl, World.ownsRow_nil _ _ _ _, h1, h2⟩)
    · rw [if_neg h2]; exact rbytes_ok S g xs size w h hs (by omega)
theorem rrbytes_any (S : Nat → Prop) (g : Nat) (xs : List UInt8) (er : Int) (size : Nat) (w : World) (h : RdAt 133 S w g xs er) (hS : ∀ b, w.heap.size ≤ b → S b) (hs : size = 1 ∨ size = 2 ∨ size = 4) (h47 : xs.length ≤ 140737488355328) :
    Calls Try.prog 80 #[.pointer (some ⟨g, 0, none⟩), .int .i64 size] w fun e w' => ∃ u, e = .returned u ∧ w'.ownsRow w.heap.size 5 1 u (rdBytes size (xs, er)).1.length (byteCells (rdBytes size (xs, er)).1) ∧ RdAt 133 S w' g (rdBytes size (xs, er)).2.1 (rdBytes size (xs, er)).2.2 ∧ w.grownBy w' (some g) := by
  unfold rdBytes
  by_cases he : er ≠ 0
  · rw [if_pos he]
    exact (rrbytes_err S g xs er size w h he).mono (by rintro _ _ ⟨rfl, rfl⟩; exact ⟨_, rfl, World.ownsRow_nil _ _ _ _, h, grown_refl _ _⟩)
  · rw [if_neg he]
    obtain rfl : er = 0 := by omega
    by_cases h2 : (cutOf size xs).2.2 ≠ 0
    · rw [if_pos h2]
      exact (rrbytes_no S g xs size w h hs h2 h47).mono (by rintro _ _ ⟨rfl, h1, h2⟩; exact ⟨_, rfl, World.ownsRow_nil _ _ _ _, h1, h2⟩)
    · rw [if_neg h2]; exact rrbytes_ok S g xs size w h hS hs (by omega) h47

theorem RdAt.keep {T : TypeId} {S : Nat → Prop} {w w' : World} {g : Nat} {xs : List UInt8} {er : Int} (h : RdAt T S w g xs er) (hb : Below w.heap.size w w') : RdAt T S w' g xs er := by
  obtain ⟨hS, v, h1, h2⟩ := h
  exact ⟨hS, v, blk_keep hb h1, h2.keep hb⟩
theorem RdAt.mono {T : TypeId} {S S' : Nat → Prop} {w : World} {g : Nat} {xs : List UInt8} {er : Int} (h : RdAt T S w g xs er) (hS : ∀ b, b < w.heap.size → S b → S' b) (hg : ¬ S' g) : RdAt T S' w g xs er := by
  obtain ⟨-, v, h1, h2⟩ := h
  exact ⟨hg, v, h1, h2.mono hS⟩
theorem RdAt.set {T : TypeId} {S : Nat → Prop} {w : World} {g b k : Nat} {xs : List UInt8} {er : Int} (h : RdAt T S w g xs er) (hb : ¬ S b) (hne : g ≠ b) (u : Value) : RdAt T S (w.setCell ⟨b, k, none⟩ u) g xs er := by
  obtain ⟨hg, v, h1, h2⟩ := h
  exact ⟨hg, v, (Below.heap_setCell w ⟨b, k, none⟩ u g hne).trans h1, h2.keepS ((Same.refl _ _).setCell hb _)⟩
theorem grown_new {w w' : World} {r : Option Nat} (h : w.grownBy w' r) {b k : Nat} (hb : w.heap.size ≤ b) (u : Value) : w.grownBy (w'.setCell ⟨b, k, none⟩ u) r :=
  ⟨h.os, h.tape, h.output, by simp [World.setCell]; exact h.size, fun i hi hne => (Below.heap_setCell w' ⟨b, k, none⟩ u i (by simp; omega)).trans (h.block i hi hne)⟩
theorem RdAt.lt {T : TypeId} {S : Nat → Prop} {w : World} {g : Nat} {xs : List UInt8} {er : Int} (h : RdAt T S w g xs er) : g < w.heap.size := by
  obtain ⟨hS, v, h1, h2⟩ := h
  exact (Array.getElem?_eq_some_iff.1 h1).1

theorem grown_blk {w w' : World} {r : Option Nat} (h : w.grownBy w' r) {b : Nat} {o : Obj} (hne : some b ≠ r) (hb : w.heap[b]? = some o) : w'.heap[b]? = some o :=
  (h.block b (Array.getElem?_eq_some_iff.1 hb).1 hne).trans hb

set_option maxHeartbeats 1000000 in
theorem eread_any (S : Nat → Prop) (g : Nat) (xs : List UInt8) (er : Int) (w : World) (h : RdAt 143 S w g xs er) :
    Calls Try.prog 58 #[.pointer (some ⟨g, 0, none⟩)] w fun e w' => ∃ u, e = .returned (.agg #[.int .i64 (rdEnt (xs, er)).1.kind, .int .i64 (rdEnt (xs, er)).1.term, u]) ∧ w'.ownsRow w.heap.size 5 1 u (rdEnt (xs, er)).1.cmd.length (byteCells (rdEnt (xs, er)).1.cmd) ∧
      RdAt 143 S w' g (rdEnt (xs, er)).2.1 (rdEnt (xs, er)).2.2 ∧ w.grownBy w' (some g) := by
  have hg := h.lt
  have hSg := h.1
  have hb0 : ∀ o, RdAt 143 (fun b => S b ∧ b ≠ w.heap.size) (w.alloc o) g xs er := fun o => (h.mono (S' := fun b => S b ∧ b ≠ w.heap.size) (fun b hlt hs => ⟨hs, by omega⟩) (fun hs => h.1 hs.1)).keep (box_below w o)
  have HB := Lib.hid hb0
  clear h hb0
  unfold rdEnt
  have n1 := rdNum_lt 1 (xs, er)
  have n6 := rdNum_lt 6 (rdNum 1 (xs, er)).2
  obtain ⟨r1, hr1⟩ : ∃ r, r = rdNum 1 (xs, er) := ⟨_, rfl⟩
  rw [← hr1] at n1 n6 ⊢
  obtain ⟨r6, hr6⟩ : ∃ r, r = rdNum 6 r1.2 := ⟨_, rfl⟩
  rw [← hr6] at n6 ⊢
  obtain ⟨r2, hr2⟩ : ∃ r, r = rdBytes 2 r6.2 := ⟨_, rfl⟩
  rw [← hr2]
  obtain ⟨k, xs1, er1⟩ := r1
  obtain ⟨t, xs6, er6⟩ := r6
  obtain ⟨p, xs2, er2⟩ := r2
  simp only at n1 n6 ⊢
  have m1 : 0 ≤ k := n1.1
  have m2 : k < 256 := by simpa using n1.2
  have m3 : 0 ≤ t := n6.1
  have m4 : t < 281474976710656 := by simpa using n6.2
  clear n1 n6
  have hblk := blk_new w (.cells #[.int .i64 0, .int .i64 0, .slice none 0 0] 33)
  have Hblk := Lib.hid hblk
  clear hblk
  have HR := Lib.hid (And.intro hr1 (And.intro hr6 hr2))
  clear hr1 hr6 hr2
  go_enter Try.func58, Try.ntmps58
  go_wp2_with fail
  have c1 := rnum_any (fun b => S b ∧ b ≠ w.heap.size) g xs er 1 _ (HB.out (.cells #[.int .i64 0, .int .i64 0, .slice none 0 0] 33)) (by omega) (by omega)
  rw [← HR.out.1] at c1
  refine c1.mono ?_
  rintro _ w1 ⟨rfl, hrd1, hg1⟩
  have Hrd1 := Lib.hid hrd1
  have hz : w.heap.size ≤ w1.heap.size := by have := hg1.size; simp at this; omega
  have Hg1 := Lib.hid (grown_trans (grown_of_below (box_below w _) _) hg1)
  have Hblk1 := Lib.hid (grown_blk hg1 (by simp; omega) Hblk.out)
  clear c1 hrd1 hg1
  go_wp2_with fail
  have c6 := rnum_any (fun b => S b ∧ b ≠ w.heap.size) g xs1 er1 6 w1 Hrd1.out (by omega) (by omega)
  rw [← HR.out.2.1] at c6
  refine c6.mono ?_
  rintro _ w2 ⟨rfl, hrd2, hg2⟩
  have Hrd2 := Lib.hid hrd2
  have hz2 : w1.heap.size ≤ w2.heap.size := hg2.size
  have Hblk2 := Lib.hid (grown_blk hg2 (by simp; omega) Hblk1.out)
  have Hg2 := Lib.hid (grown_trans Hg1.out hg2)
  clear c6 hrd2 hg2
  go_wp2_with fail
  have c2 := rbytes_any (fun b => S b ∧ b ≠ w.heap.size) g xs6 er6 2 w2 Hrd2.out (by omega)
  rw [← HR.out.2.2] at c2
  refine c2.mono ?_
  rintro _ w3 ⟨u, rfl, hown, hrd3, hg3⟩
  have Hrd3 := Lib.hid hrd3
  have Hown := Lib.hid hown
  obtain ⟨A, c, rfl⟩ := (RowAt.of_own hown).slice
  have hblk3 := grown_blk hg3 (by simp; omega) Hblk2.out
  obtain ⟨q0, q1, q2, f0, f1, f2⟩ := cells3 hblk3
  have hwlt : w.heap.size < w2.heap.size := (Array.getElem?_eq_some_iff.1 Hblk2.out).1
  have Hg3 := Lib.hid (grown_trans Hg2.out hg3)
  clear c2 hrd3 hown hg3 hblk3
  go_wp2_with fail
  refine bodyPost_ret (v := .agg #[.int .i64 (k - 64), .int .i64 t, .slice A p.length c]) (by simp [results, Try.results58, go_sem, q0, q1, q2]) rfl ⟨_, rfl, ?_, ?_, ?_⟩
  · exact own_lower (own_far (own_far (own_far Hown.out hwlt _) hwlt _) hwlt _) (by omega)
  · have hne : g ≠ w.heap.size := by omega
    have hns : ¬ (S w.heap.size ∧ w.heap.size ≠ w.heap.size) := fun h => h.2 rfl
    exact (((Hrd3.out.set hns hne _).set hns hne _).set hns hne _).mono (fun b _ h => h.1) hSg
  · exact grown_new (grown_new (grown_new Hg3.out (Nat.le_refl _) _) (Nat.le_refl _) _) (Nat.le_refl _) _

set_option maxRecDepth 100000 in
set_option maxHeartbeats 2000000 in
theorem qget_any (S : Nat → Prop) (g : Nat) (xs : List UInt8) (er : Int) (w : World) (h : RdAt 133 S w g xs er) (hS : ∀ b, w.heap.size ≤ b → S b) (h47 : xs.length ≤ 140737488355328) :
    Calls Try.prog 61 #[.pointer (some ⟨g, 0, none⟩)] w fun e w' => ∃ u, e = .returned (.tuple #[.agg #[.int .i64 (rdEnt (xs, er)).1.kind, .int .i64 (rdEnt (xs, er)).1.term, u], .bool (rightB (rdEnt (xs, er)).1)]) ∧ w'.ownsRow w.heap.size 5 1 u (rdEnt (xs, er)).1.cmd.length (byteCells (rdEnt (xs, er)).1.cmd) ∧
      RdAt 133 S w' g (rdEnt (xs, er)).2.1 (rdEnt (xs, er)).2.2 ∧ w.grownBy w' (some g) := by
  have hg := h.lt
  have hSg := h.1
  have hb0 : ∀ o, RdAt 133 (fun b => S b ∧ b ≠ w.heap.size) (w.alloc o) g xs er := fun o => (h.mono (S' := fun b => S b ∧ b ≠ w.heap.size) (fun b hlt hs => ⟨hs, by omega⟩) (fun hs => h.1 hs.1)).keep (box_below w o)
  have HB := Lib.hid hb0
  have l1 := rdNum_len 1 (xs, er)
  have l6 := rdNum_len 6 (rdNum 1 (xs, er)).2
  clear h hb0
  unfold rdEnt
  have n1 := rdNum_lt 1 (xs, er)
  have n6 := rdNum_lt 6 (rdNum 1 (xs, er)).2
  obtain ⟨r1, hr1⟩ : ∃ r, r = rdNum 1 (xs, er) := ⟨_, rfl⟩
  rw [← hr1] at n1 n6 l1 l6 ⊢
  obtain ⟨r6, hr6⟩ : ∃ r, r = rdNum 6 r1.2 := ⟨_, rfl⟩
  rw [← hr6] at n6 l6 ⊢
  obtain ⟨r2, hr2⟩ : ∃ r, r = rdBytes 2 r6.2 := ⟨_, rfl⟩
  rw [← hr2]
  obtain ⟨k, xs1, er1⟩ := r1
  obtain ⟨t, xs6, er6⟩ := r6
  obtain ⟨p, xs2, er2⟩ := r2
  simp only at n1 n6 l1 l6 ⊢
  have m1 : 0 ≤ k := n1.1
  have m2 : k < 256 := by simpa using n1.2
  have m3 : 0 ≤ t := n6.1
  have m4 : t < 281474976710656 := by simpa using n6.2
  have HL := Lib.hid (And.intro l1 (And.intro l6 h47))
  have HS := Lib.hid hS
  clear n1 n6 l1 l6 h47 hS
  have hblk := blk_new w (.cells #[.int .i64 0, .int .i64 0, .slice none 0 0] 33)
  have Hblk := Lib.hid hblk
  clear hblk
  have HR := Lib.hid (And.intro hr1 (And.intro hr6 hr2))
  clear hr1 hr6 hr2
  go_enter Try.func61, Try.ntmps61
  go_wp2_with fail
  have c1 := rrnum_any (fun b => S b ∧ b ≠ w.heap.size) g xs er 1 _ (HB.out (.cells #[.int .i64 0, .int .i64 0, .slice none 0 0] 33)) (by omega) (by omega)
  rw [← HR.out.1] at c1
  refine c1.mono ?_
  rintro _ w1 ⟨rfl, hrd1, hg1⟩
  have Hrd1 := Lib.hid hrd1
  have hz : w.heap.size ≤ w1.heap.size := by have := hg1.size; simp at this; omega
  have Hg1 := Lib.hid (grown_trans (grown_of_below (box_below w _) _) hg1)
  have Hblk1 := Lib.hid (grown_blk hg1 (by simp; omega) Hblk.out)
  clear c1 hrd1 hg1
  go_wp2_with fail
  have c6 := rrnum_any (fun b => S b ∧ b ≠ w.heap.size) g xs1 er1 6 w1 Hrd1.out (by omega) (by omega)
  rw [← HR.out.2.1] at c6
  refine c6.mono ?_
  rintro _ w2 ⟨rfl, hrd2, hg2⟩
  have hz2 : w1.heap.size ≤ w2.heap.size := hg2.size
  have hwlt : w.heap.size < w2.heap.size := (Array.getElem?_eq_some_iff.1 (grown_blk hg2 (by simp; omega) Hblk1.out)).1
  have Hblk2 := Lib.hid (blk_alloc (grown_blk hg2 (by simp; omega) Hblk1.out) (.cells #[.int .i64 (k - 64), .int .i64 t, .slice none 0 0] 33))
  have HblkE := Lib.hid (blk_new w2 (.cells #[.int .i64 (k - 64), .int .i64 t, .slice none 0 0] 33))
  have hgE : g ≠ w2.heap.size := by omega
  have Hrd2 : Hid (RdAt 133 (fun b => S b ∧ b ≠ w.heap.size ∧ b ≠ w2.heap.size) (w2.alloc (.cells #[.int .i64 (k - 64), .int .i64 t, .slice none 0 0] 33)) g xs6 er6) :=
    Lib.hid ((hrd2.mono (S' := fun b => S b ∧ b ≠ w.heap.size ∧ b ≠ w2.heap.size) (fun b hlt hs => ⟨hs.1, hs.2, by omega⟩) (fun hs => hSg hs.1)).keep (box_below w2 _))
  have Hg2 := Lib.hid (grown_trans Hg1.out (grown_below hg2 (box_below w2 (.cells #[.int .i64 (k - 64), .int .i64 t, .slice none 0 0] 33))))
  clear c6 hrd2 hg2
  go_wp2_with fail
  have c2 := rrbytes_any (fun b => S b ∧ b ≠ w.heap.size ∧ b ≠ w2.heap.size) g xs6 er6 2 _ Hrd2.out (fun b hb => ⟨HS.out b (by simp at hb; omega), by simp at hb; omega, by simp at hb; omega⟩) (by omega) (by have := HL.out; omega)
  rw [← HR.out.2.2] at c2
  refine c2.mono ?_
  rintro _ w3 ⟨u, rfl, hown, hrd3, hg3⟩
  have Hrd3 := Lib.hid hrd3
  have Hown := Lib.hid hown
  obtain ⟨A, c, rfl⟩ := (RowAt.of_own hown).slice
  have hblk3 := grown_blk hg3 (by simp; omega) Hblk2.out
  have hblkE3 := grown_blk hg3 (by simp; omega) HblkE.out
  have hz3 : w2.heap.size + 1 ≤ w3.heap.size := by have := hg3.size; simpa using this
  obtain ⟨q0, q1, q2, f0, f1, f2⟩ := cells3 hblk3
  obtain ⟨e0, e1, e2, i0, i1, i2⟩ := cells3 hblkE3
  have Hg3 := Lib.hid (grown_trans Hg2.out hg3)
  have HR3 := Lib.hid hblk3
  have HE3 := Lib.hid hblkE3
  clear c2 hrd3 hown hg3 hblk3 hblkE3
  go_wp2_with fail
  have hE4 : (w3.setCell ⟨w2.heap.size, 2, none⟩ (.slice A p.length c)).heap[w2.heap.size]? = some (.cells #[.int .i64 (k - 64), .int .i64 t, .slice A p.length c] 33 (0, 0)) := by
    simp [World.setCell, Array.getElem?_modify, HE3.out]
  have hR4 : (w3.setCell ⟨w2.heap.size, 2, none⟩ (.slice A p.length c)).heap[w.heap.size]? = some (.cells #[.int .i64 0, .int .i64 0, .slice none 0 0] 33 (0, 0)) :=
    (Below.heap_setCell w3 ⟨w2.heap.size, 2, none⟩ _ _ (by simp; omega)).trans HR3.out
  have own4 := own_far (k := 2) Hown.out (by simp : w2.heap.size < (w2.alloc (.cells #[.int .i64 (k - 64), .int .i64 t, .slice none 0 0] 33)).heap.size) (.slice A p.length c)
  have hns : ¬ (S w2.heap.size ∧ w2.heap.size ≠ w.heap.size ∧ w2.heap.size ≠ w2.heap.size) := fun h => h.2.2 rfl
  have rd4 := Hrd3.out.set (k := 2) hns hgE (.slice A p.length c)
  have g4 := grown_new (k := 2) Hg3.out (by omega : w.heap.size ≤ w2.heap.size) (.slice A p.length c)
  obtain ⟨W4, hW4⟩ : ∃ W4, w3.setCell ⟨w2.heap.size, 2, none⟩ (.slice A p.length c) = W4 := ⟨_, rfl⟩
  rw [hW4] at hE4 hR4 own4 rd4 g4 ⊢
  clear q0 q1 q2 f0 f1 f2 e0 e1 e2 i0 i1 i2 hW4
  obtain ⟨q0, q1, q2, f0, f1, f2⟩ := cells3 hR4
  obtain ⟨e0, e1, e2, i0, i1, i2⟩ := cells3 hE4
  have own4' := own_lower own4 (B := w2.heap.size + 1) (by simp)
  have hby : Bytes (fun b => w2.heap.size + 1 ≤ b) W4 (.slice A p.length c) p := RowAt.of_own own4'
  have hRr : ∀ W, Same (fun b => w2.heap.size + 1 ≤ b) W4 W → Calls Try.prog 54 #[.agg #[.int .i64 (k - 64), .int .i64 t, .slice A p.length c]] W fun e w' => e = .returned (.bool (rightB ⟨k - 64, t, p⟩)) ∧ Below W.heap.size W w' :=
    fun W hs => qright_any (k - 64) t _ p _ (hby.keepS hs)
  have z4 : w.heap.size < W4.heap.size := block_lt q0
  have z4' : w2.heap.size < W4.heap.size := block_lt e0
  have hn1 : ¬ (w2.heap.size + 1 ≤ w.heap.size) := by omega
  have HRr := Lib.hid hRr
  have Hown4 := Lib.hid own4
  have Hrd4 := Lib.hid rd4
  have Hg4 := Lib.hid g4
  clear own4 rd4 g4 own4' hby hRr hns hE4 hR4
  go_region_with (go_at_call 54; (first | (refine (HRr.out _ ((Same.refl _ _).drew)).mono ?_) | (refine (HRr.out _ (((((Same.refl _ _).drew).setCell hn1 _).setCell hn1 _).setCell hn1 _)).mono ?_)); rintro _ w5 ⟨rfl, hb5⟩; (try (have p0 : w5.cell? ⟨w.heap.size, 0, none⟩ = some (.int .i64 0) := cell_keep (w := W4.drew) hb5 q0; have p1 : w5.cell? ⟨w.heap.size, 1, none⟩ = some (.int .i64 0) := cell_keep (w := W4.drew) hb5 q1; have p2 : w5.cell? ⟨w.heap.size, 2, none⟩ = some (.slice none 0 0) := cell_keep (w := W4.drew) hb5 q2; have h0 : w5.frozen? ⟨w.heap.size, 0, none⟩ = false := (hb5.frozen (p := ⟨w.heap.size, 0, none⟩) z4).trans f0; have h1 : w5.frozen? ⟨w.heap.size, 1, none⟩ = false := (hb5.frozen (p := ⟨w.heap.size, 1, none⟩) z4).trans f1; have h2 : w5.frozen? ⟨w.heap.size, 2, none⟩ = false := (hb5.frozen (p := ⟨w.heap.size, 2, none⟩) z4).trans f2; have j0 : w5.cell? ⟨w2.heap.size, 0, none⟩ = some (.int .i64 (k - 64)) := cell_keep (w := W4.drew) hb5 e0; have j1 : w5.cell? ⟨w2.heap.size, 1, none⟩ = some (.int .i64 t) := cell_keep (w := W4.drew) hb5 e1; have j2 : w5.cell? ⟨w2.heap.size, 2, none⟩ = some (.slice A p.length c) := cell_keep (w := W4.drew) hb5 e2)))
  all_goals
    go_wp2_with fail
    have own5 := own_keep (w := W4) Hown4.out (below_of_drew hb5)
    have rd5 := Hrd4.out.keep (below_of_drew hb5)
    have g5 := grown_below Hg4.out (below_of_drew hb5)
    refine bodyPost_ret (v := .tuple #[.agg #[.int .i64 (k - 64), .int .i64 t, .slice A p.length c], .bool (rightB ⟨k - 64, t, p⟩)]) (by simp [results, Try.results61, go_sem, p0, p1, p2]) rfl ⟨_, rfl, ?_, ?_, ?_⟩
    · exact own_lower (own_far (own_far (own_far own5 (by simp; omega) _) (by simp; omega) _) (by simp; omega) _) (by simp; omega)
    · have hne : g ≠ w.heap.size := by omega
      have hns : ¬ (S w.heap.size ∧ w.heap.size ≠ w.heap.size ∧ w.heap.size ≠ w2.heap.size) := fun h => h.2.1 rfl
      exact (((rd5.set hns hne _).set hns hne _).set hns hne _).mono (fun b _ h => h.1) hSg
    · exact grown_new (grown_new (grown_new g5 (Nat.le_refl _) _) (Nat.le_refl _) _) (Nat.le_refl _) _
end Go.Proofs.Ytoaoldhajpbenaa

namespace Go.Proofs.Ytoaoldhajpbenaa
open Go.RowKit

/-- What bytes are as an entry, and what is wrong of them. -/
def unpOf (xs : List UInt8) : Ent × Int :=
  if endOf (rdEnt (xs, 0)).2.1 (rdEnt (xs, 0)).2.2 ≠ 0 then (⟨0, 0, []⟩, endOf (rdEnt (xs, 0)).2.1 (rdEnt (xs, 0)).2.2)
  else if rightB (rdEnt (xs, 0)).1 = true then ((rdEnt (xs, 0)).1, 0) else (⟨0, 0, []⟩, 1)

theorem rdEnt_in (st : List UInt8 × Int) : -64 ≤ (rdEnt st).1.kind ∧ (rdEnt st).1.kind < 192 ∧ 0 ≤ (rdEnt st).1.term ∧ (rdEnt st).1.term < 281474976710656 := by
  have n1 := rdNum_lt 1 st
  have n6 := rdNum_lt 6 (rdNum 1 st).2
  have h1 : (rdNum 1 st).1 < 256 := by simpa using n1.2
  have h6 : (rdNum 6 (rdNum 1 st).2).1 < 281474976710656 := by simpa using n6.2
  exact ⟨by show -64 ≤ (rdNum 1 st).1 - 64; omega, by show (rdNum 1 st).1 - 64 < 192; omega, n6.1, h6⟩

set_option maxRecDepth 100000 in
set_option maxHeartbeats 2000000 in
theorem eunpack_any (S : Nat → Prop) (v : Value) (xs : List UInt8) (w : World) (hv : Bytes S w v xs) (h47 : xs.length ≤ 140737488355328) :
    Calls Try.prog 29 #[v] w fun e w' => ∃ u, e = .returned (.tuple #[.agg #[.int .i64 (unpOf xs).1.kind, .int .i64 (unpOf xs).1.term, u], .int .i64 (unpOf xs).2]) ∧ w'.ownsRow w.heap.size 5 1 u (unpOf xs).1.cmd.length (byteCells (unpOf xs).1.cmd) ∧ Below w.heap.size w w' := by
  have hb0 := box_below w (.cells #[.int .i64 0, .int .i64 0, .slice none 0 0] 33)
  have hN := newReader_any S v xs _ (hv.keep hb0) h47
  have HN := Lib.hid hN
  have HR0 := Lib.hid (blk_new w (.cells #[.int .i64 0, .int .i64 0, .slice none 0 0] 33))
  have HB0 := Lib.hid hb0
  have h47' := Lib.hid h47
  obtain ⟨A, c, rfl⟩ := hv.slice
  have hin := rdEnt_in (xs, 0)
  obtain ⟨i1, i2, i3, i4⟩ := hin
  have hz0 : (w.alloc (.cells #[.int .i64 0, .int .i64 0, .slice none 0 0] 33)).heap.size = w.heap.size + 1 := by simp
  clear hv hN hb0 h47
  go_enter Try.func29, Try.ntmps29
  go_wp2_with fail
  refine HN.out.mono ?_
  rintro _ w1 ⟨g, rfl, hgW, hrd, hb1⟩
  rw [hz0] at hgW
  have HR1 := Lib.hid (blk_keep hb1 HR0.out)
  have hgl := hrd.lt
  have hC := eread_any (fun b => w.heap.size + 1 ≤ b ∧ b ≠ g) g xs 0 w1 (by simpa using hrd)
  obtain ⟨r, hr⟩ : ∃ r, r = rdEnt (xs, 0) := ⟨_, rfl⟩
  rw [← hr] at hC i1 i2 i3 i4
  have Hr := Lib.hid hr
  obtain ⟨⟨k, t, p⟩, ys, er⟩ := r
  simp only at hC i1 i2 i3 i4
  have HC := Lib.hid hC
  have HB1 := Lib.hid (HB0.out.trans (hb1.mono (by simp)))
  clear hC hr hrd hb1 hz0
  go_wp2_with fail
  refine HC.out.mono ?_
  rintro _ w2 ⟨u, rfl, hown, hrd2, hg2⟩
  obtain ⟨A2, c2, rfl⟩ := (RowAt.of_own hown).slice
  have hR2 := grown_blk hg2 (by simp; omega) HR1.out
  have hzz := hg2.size
  have hE := blk_new w2 (.cells #[.int .i64 k, .int .i64 t, .slice A2 p.length c2] 33)
  have hend := rend_any _ g ys er (w2.alloc (.cells #[.int .i64 k, .int .i64 t, .slice A2 p.length c2] 33)) (hrd2.keep (box_below w2 _))
  have Hend := Lib.hid hend
  have hBg : Below w.heap.size w w2 := (HB1.out.grown hg2 HB1.out.size (by intro k hk; injection hk with hk; omega))
  have HB2 := Lib.hid (below_alloc hBg (.cells #[.int .i64 k, .int .i64 t, .slice A2 p.length c2] 33))
  have Hown := Lib.hid (own_keep hown (box_below w2 (.cells #[.int .i64 k, .int .i64 t, .slice A2 p.length c2] 33)))
  have HR2 := Lib.hid (blk_alloc hR2 (.cells #[.int .i64 k, .int .i64 t, .slice A2 p.length c2] 33))
  have HE := Lib.hid hE
  have hw1 : w.heap.size < w1.heap.size := (Array.getElem?_eq_some_iff.1 HR1.out).1
  clear hown hrd2 hg2 hR2 hE hend hBg
  go_wp2_with fail
  refine Hend.out.mono ?_
  rintro _ w3 ⟨rfl, hb3⟩
  have hR3 := blk_keep hb3 HR2.out
  have hE3 := blk_keep hb3 HE.out
  obtain ⟨q0, q1, q2, f0, f1, f2⟩ := cells3 hR3
  obtain ⟨e0, e1, e2, j0, j1, j2⟩ := cells3 hE3
  have Hown3 := Lib.hid (own_keep Hown.out hb3)
  have HB3 := Lib.hid (below_then HB2.out hb3)
  have hun : unpOf xs = if endOf ys er ≠ 0 then (⟨0, 0, []⟩, endOf ys er) else if rightB ⟨k, t, p⟩ = true then (⟨k, t, p⟩, 0) else (⟨0, 0, []⟩, 1) := by
    unfold unpOf; rw [← Hr.out]
  clear hR3 hE3 hb3
  by_cases he : endOf ys er ≠ 0
  · rw [if_pos he] at hun
    have he2 : (endOf ys er != 0) = true := by simpa using he
    have Hun := Lib.hid hun
    clear he hun
    generalize endOf ys er = f at *
    go_wp2_with fail
    refine bodyPost_ret (v := .tuple #[.agg #[.int .i64 0, .int .i64 0, .slice none 0 0], .int .i64 f]) (by simp [results, Try.results29, go_sem, q0, q1, q2]) rfl ⟨.slice none 0 0, by rw [Hun.out], by rw [Hun.out]; exact World.ownsRow_nil _ _ _ _, ?_⟩
    exact ((HB3.out.setCell (by simp) _).setCell (by simp) _).setCell (by simp) _
  · have he0 : endOf ys er = 0 := by omega
    have he2 : (endOf ys er != 0) = false := by simp [he0]
    rw [if_neg he] at hun
    clear he he0
    generalize endOf ys er = f at *
    have hrt0 := right_any k t _ p w3 (RowAt.of_own Hown3.out)
    by_cases hrt : rightB ⟨k, t, p⟩ = true
    · rw [if_pos hrt] at hun
      rw [hrt] at hrt0
      have HRt := Lib.hid hrt0
      clear hrt0
      have Hun := Lib.hid hun
      clear hun hrt
      go_wp2_with (go_at_call 45; refine HRt.out.mono ?_; rintro _ w4 ⟨rfl, hb4⟩; obtain ⟨hc4, hf4⟩ := bcell hb4; have z1 := block_lt q0; have z2 := block_lt e0)
      refine bodyPost_ret (v := .tuple #[.agg #[.int .i64 k, .int .i64 t, .slice A2 p.length c2], .int .i64 0]) (by simp [results, Try.results29, go_sem, q0, q1, q2, hc4, z1]) rfl ⟨.slice A2 p.length c2, by rw [Hun.out], by rw [Hun.out]; exact own_lower (own_far (own_far (own_far (own_keep Hown3.out hb4) hw1 _) hw1 _) hw1 _) (by omega), ?_⟩
      exact (((below_then HB3.out hb4).setCell (by simp) _).setCell (by simp) _).setCell (by simp) _
    · rw [if_neg hrt] at hun
      have hrf : rightB ⟨k, t, p⟩ = false := by simpa using hrt
      rw [hrf] at hrt0
      have HRt := Lib.hid hrt0
      clear hrt0
      have Hun := Lib.hid hun
      clear hun hrt hrf
      go_wp2_with (go_at_call 45; refine HRt.out.mono ?_; rintro _ w4 ⟨rfl, hb4⟩; obtain ⟨hc4, hf4⟩ := bcell hb4; have z1 := block_lt q0; have z2 := block_lt e0)
      refine bodyPost_ret (v := .tuple #[.agg #[.int .i64 0, .int .i64 0, .slice none 0 0], .int .i64 1]) (by simp [results, Try.results29, go_sem, q0, q1, q2, hc4, z1]) rfl ⟨.slice none 0 0, by rw [Hun.out], by rw [Hun.out]; exact World.ownsRow_nil _ _ _ _, ?_⟩
      exact (((below_then HB3.out hb4).setCell (by simp) _).setCell (by simp) _).setCell (by simp) _

set_option maxRecDepth 100000 in
set_option maxHeartbeats 2000000 in
theorem qunpack_any (S : Nat → Prop) (v : Value) (xs : List UInt8) (w : World) (hv : Bytes S w v xs) (h47 : xs.length ≤ 140737488355328) :
    Calls Try.prog 30 #[v] w fun e w' => ∃ u, e = .returned (.tuple #[.agg #[.int .i64 (unpOf xs).1.kind, .int .i64 (unpOf xs).1.term, u], .int .i64 (unpOf xs).2]) ∧ w'.ownsRow w.heap.size 5 1 u (unpOf xs).1.cmd.length (byteCells (unpOf xs).1.cmd) ∧ Below w.heap.size w w' := by
  have hb0 := box_below w (.cells #[.int .i64 0, .int .i64 0, .slice none 0 0] 33)
  have hN := rof_any S v xs _ (hv.keep hb0) h47
  have HN := Lib.hid hN
  have HR0 := Lib.hid (blk_new w (.cells #[.int .i64 0, .int .i64 0, .slice none 0 0] 33))
  have HB0 := Lib.hid hb0
  have h47' := Lib.hid h47
  obtain ⟨A, c, rfl⟩ := hv.slice
  have hin := rdEnt_in (xs, 0)
  obtain ⟨i1, i2, i3, i4⟩ := hin
  have hz0 : (w.alloc (.cells #[.int .i64 0, .int .i64 0, .slice none 0 0] 33)).heap.size = w.heap.size + 1 := by simp
  clear hv hN hb0 h47
  go_enter Try.func30, Try.ntmps30
  go_wp2_with fail
  refine HN.out.mono ?_
  rintro _ w1 ⟨g, rfl, hgW, hrd, hb1⟩
  rw [hz0] at hgW
  have HR1 := Lib.hid (blk_keep hb1 HR0.out)
  have hgl := hrd.lt
  have hC := qget_any (fun b => w.heap.size + 1 ≤ b ∧ b ≠ g) g xs 0 w1 (by simpa using hrd) (fun b hb => ⟨by omega, by omega⟩) h47'.out
  obtain ⟨r, hr⟩ : ∃ r, r = rdEnt (xs, 0) := ⟨_, rfl⟩
  rw [← hr] at hC i1 i2 i3 i4
  have Hr := Lib.hid hr
  obtain ⟨⟨k, t, p⟩, ys, er⟩ := r
  simp only at hC i1 i2 i3 i4
  have HC := Lib.hid hC
  have HB1 := Lib.hid (HB0.out.trans (hb1.mono (by simp)))
  clear hC hr hrd hb1 hz0
  go_wp2_with fail
  refine HC.out.mono ?_
  rintro _ w2 ⟨u, rfl, hown, hrd2, hg2⟩
  obtain ⟨A2, c2, rfl⟩ := (RowAt.of_own hown).slice
  have hR2 := grown_blk hg2 (by simp; omega) HR1.out
  have hzz := hg2.size
  have hE := blk_new w2 (.cells #[.int .i64 k, .int .i64 t, .slice A2 p.length c2] 33)
  have hend := rrend_any _ g ys er (w2.alloc (.cells #[.int .i64 k, .int .i64 t, .slice A2 p.length c2] 33)) (hrd2.keep (box_below w2 _))
  have Hend := Lib.hid hend
  have hBg : Below w.heap.size w w2 := (HB1.out.grown hg2 HB1.out.size (by intro k hk; injection hk with hk; omega))
  have HB2 := Lib.hid (below_alloc hBg (.cells #[.int .i64 k, .int .i64 t, .slice A2 p.length c2] 33))
  have Hown := Lib.hid (own_keep hown (box_below w2 (.cells #[.int .i64 k, .int .i64 t, .slice A2 p.length c2] 33)))
  have HR2 := Lib.hid (blk_alloc hR2 (.cells #[.int .i64 k, .int .i64 t, .slice A2 p.length c2] 33))
  have HE := Lib.hid hE
  have hw1 : w.heap.size < w1.heap.size := (Array.getElem?_eq_some_iff.1 HR1.out).1
  clear hown hrd2 hg2 hR2 hE hend hBg
  go_wp2_with fail
  refine Hend.out.mono ?_
  rintro _ w3 ⟨rfl, hb3⟩
  have hR3 := blk_keep hb3 HR2.out
  have hE3 := blk_keep hb3 HE.out
  obtain ⟨q0, q1, q2, f0, f1, f2⟩ := cells3 hR3
  obtain ⟨e0, e1, e2, j0, j1, j2⟩ := cells3 hE3
  have Hown3 := Lib.hid (own_keep Hown.out hb3)
  have HB3 := Lib.hid (below_then HB2.out hb3)
  have hun : unpOf xs = if endOf ys er ≠ 0 then (⟨0, 0, []⟩, endOf ys er) else if rightB ⟨k, t, p⟩ = true then (⟨k, t, p⟩, 0) else (⟨0, 0, []⟩, 1) := by
    unfold unpOf; rw [← Hr.out]
  clear hR3 hE3 hb3
  by_cases he : endOf ys er ≠ 0
  · rw [if_pos he] at hun
    have he2 : (endOf ys er != 0) = true := by simpa using he
    have Hun := Lib.hid hun
    clear he hun
    generalize endOf ys er = f at *
    go_wp2_with fail
    refine bodyPost_ret (v := .tuple #[.agg #[.int .i64 0, .int .i64 0, .slice none 0 0], .int .i64 f]) (by simp [results, Try.results30, go_sem, q0, q1, q2]) rfl ⟨.slice none 0 0, by rw [Hun.out], by rw [Hun.out]; exact World.ownsRow_nil _ _ _ _, ?_⟩
    exact ((HB3.out.setCell (by simp) _).setCell (by simp) _).setCell (by simp) _
  · have he0 : endOf ys er = 0 := by omega
    have he2 : (endOf ys er != 0) = false := by simp [he0]
    rw [if_neg he] at hun
    clear he he0
    generalize endOf ys er = f at *
    skip
    by_cases hrt : rightB ⟨k, t, p⟩ = true
    · rw [if_pos hrt] at hun
      have hrt2 : rightB ⟨k, t, p⟩ = true := hrt
      have Hun := Lib.hid hun
      clear hun hrt
      go_wp2_with fail
      refine bodyPost_ret (v := .tuple #[.agg #[.int .i64 k, .int .i64 t, .slice A2 p.length c2], .int .i64 0]) (by simp [results, Try.results30, go_sem, q0, q1, q2]) rfl ⟨.slice A2 p.length c2, by rw [Hun.out], by rw [Hun.out]; exact own_lower (own_far (own_far (own_far Hown3.out hw1 _) hw1 _) hw1 _) (by omega), ?_⟩
      exact ((HB3.out.setCell (by simp) _).setCell (by simp) _).setCell (by simp) _
    · rw [if_neg hrt] at hun
      have hrf : rightB ⟨k, t, p⟩ = false := by simpa using hrt
      have hrf2 : rightB ⟨k, t, p⟩ = false := hrf
      have Hun := Lib.hid hun
      clear hun hrt hrf
      go_wp2_with fail
      refine bodyPost_ret (v := .tuple #[.agg #[.int .i64 0, .int .i64 0, .slice none 0 0], .int .i64 1]) (by simp [results, Try.results30, go_sem, q0, q1, q2]) rfl ⟨.slice none 0 0, by rw [Hun.out], by rw [Hun.out]; exact World.ownsRow_nil _ _ _ _, ?_⟩
      exact ((HB3.out.setCell (by simp) _).setCell (by simp) _).setCell (by simp) _
end Go.Proofs.Ytoaoldhajpbenaa

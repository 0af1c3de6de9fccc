/- Entries as bytes: the writers' side. No statement is proved here. -/
import Derived.Test.YtoaoldhajpbenaaFldW
import Derived.Test.YtoaoldhajpbenaaRefE
namespace Go.Proofs.Ytoaoldhajpbenaa
open Go.RowKit

theorem qcan_any (n : Int) (w : World) :
    Calls Try.prog 86 #[.int .i64 n] w fun e w' => e = .returned (.bool (mayB n)) ∧ w = w' := by
  go_enter Try.func86, Try.ntmps86
  go_wp2
  all_goals go_ret
  · rename_i h; exact ⟨by simp [mayB, h], rfl⟩
  · rename_i h; exact ⟨by simp [mayB]; omega, rfl⟩
theorem qmask_any (n : Int) (w : World) :
    Calls Try.prog 87 #[.int .i64 n] w fun e w' => e = .returned (.bool (maskB n)) ∧ w = w' := by
  go_enter Try.func87, Try.ntmps87
  go_wp2
  all_goals go_ret
  · rename_i h; exact ⟨by simp [maskB, h], rfl⟩
  · rename_i h; exact ⟨by simp [maskB]; omega, rfl⟩

set_option maxHeartbeats 2000000 in
theorem qright_any (k t : Int) (v : Value) (xs : List UInt8) {S : Nat → Prop} (w : World) (hv : Bytes S w v xs) :
    Calls Try.prog 54 #[.agg #[.int .i64 k, .int .i64 t, v]] w fun e w' => e = .returned (.bool (rightB ⟨k, t, xs⟩)) ∧ Below w.heap.size w w' := by
  by_cases h2 : k = 2 ∧ xs.length = 1
  · obtain ⟨rfl, hl⟩ := h2
    obtain ⟨b, o, c, rfl, hn, hc, _, hb, hcell⟩ := hv.form (by omega)
    have h0 := hcell 0 _ (byteCells_get xs 0 (by omega))
    rw [Nat.add_zero] at h0
    obtain ⟨x, rfl⟩ : ∃ x, xs = [x] := List.length_eq_one_iff.1 hl
    simp only [List.length_singleton, List.getElem_cons_zero] at h0 hn ⊢
    clear hcell
    cases hm : mayB t <;> cases hk : maskB (x.toNat : Int)
    all_goals
      by_cases ht : t < 1
      all_goals
        have hx := x.toNat_lt
        go_enter Try.func54, Try.ntmps54
        go_wp2_with (first | (go_at_call 86; refine (qcan_any _ _).mono ?_; rintro e w' ⟨rfl, rfl⟩) | (go_at_call 87; refine (qmask_any _ _).mono ?_; rintro e w' ⟨rfl, rfl⟩))
        all_goals go_ret
        all_goals refine ⟨?_, box_below _ _⟩
        all_goals first | (simp [rightB, hm, hk]; done) | (simp [rightB, hm, hk]; omega)
  · obtain ⟨A, c, rfl⟩ := hv.slice
    have hle := hv.le
    unfold maxLen at hle
    by_cases k0 : k < 0
    · go_enter Try.func54, Try.ntmps54
      go_wp2_with fail
      go_ret
      exact ⟨by simp [rightB]; omega, box_below _ _⟩
    · by_cases k2 : k > 2
      · go_enter Try.func54, Try.ntmps54
        go_wp2_with fail
        go_ret
        exact ⟨by simp [rightB]; omega, box_below _ _⟩
      · by_cases ht : t < 1
        · go_enter Try.func54, Try.ntmps54
          go_wp2_with fail
          go_ret
          exact ⟨by simp [rightB]; omega, box_below _ _⟩
        · cases hm : mayB t
          · go_enter Try.func54, Try.ntmps54
            go_wp2_with (go_at_call 86; refine (qcan_any _ _).mono ?_; rintro e w' ⟨rfl, rfl⟩)
            go_ret
            exact ⟨by simp [rightB, hm], box_below _ _⟩
          · by_cases hl : (xs.length : Int) > 4080
            · go_enter Try.func54, Try.ntmps54
              go_wp2_with (go_at_call 86; refine (qcan_any _ _).mono ?_; rintro e w' ⟨rfl, rfl⟩)
              go_ret
              have : rightB ⟨k, t, xs⟩ = false := by
                have : decide (xs.length ≤ 4080) = false := by simp; omega
                simp only [rightB, this, Bool.and_false, Bool.false_and]
              exact ⟨by rw [this]; rfl, box_below _ _⟩
            · by_cases hk2 : k = 2
              · subst hk2
                have hl1 : ((xs.length : Int) == 1) = false := by simp; omega
                have hr : rightB ⟨2, t, xs⟩ = false := by
                  have : decide (xs.length = 1) = false := by simp; omega
                  simp [rightB, this]
                have Hr := Lib.hid hr
                clear hr
                go_enter Try.func54, Try.ntmps54
                go_wp2_with (go_at_call 86; refine (qcan_any _ _).mono ?_; rintro e w' ⟨rfl, rfl⟩)
                go_ret
                exact ⟨by rw [Hr.out]; rfl, box_below _ _⟩
              · have hk1 : (k != 2) = true := by simpa using hk2
                go_enter Try.func54, Try.ntmps54
                go_wp2_with (go_at_call 86; refine (qcan_any _ _).mono ?_; rintro e w' ⟨rfl, rfl⟩)
                go_ret
                refine ⟨?_, box_below _ _⟩
                have h01 : k = 0 ∨ k = 1 := by omega
                have hl' : xs.length ≤ 4080 := by omega
                have ht' : 1 ≤ t := by omega
                have : rightB ⟨k, t, xs⟩ = true := by rcases h01 with rfl | rfl <;> simp [rightB, hm, hl', ht']
                rw [this]
                simp [hk2]

/-- An entry as bytes. -/
def encE (e : Ent) : List UInt8 := be 1 (e.kind + 64).toNat ++ be 6 e.term.toNat ++ be 2 e.cmd.length ++ e.cmd
theorem encE_length (e : Ent) : (encE e).length = 9 + e.cmd.length := by simp [encE, be_length]; omega
theorem rightB_facts {e : Ent} (h : rightB e = true) : 0 ≤ e.kind ∧ e.kind ≤ 2 ∧ 1 ≤ e.term ∧ e.term ≤ 1099511627776 ∧ e.cmd.length ≤ 4080 := by
  simp [rightB, mayB] at h
  omega

set_option maxHeartbeats 1000000 in
/-- An entry behind what a letter holds. -/
theorem lentry_ok (S : Nat → Prop) (B g : Nat) (xs : List UInt8) (e : Ent) (y : Value) (w : World) (h : WrS 142 S B w g xs 0) (hS : ∀ b, S b → b < w.heap.size) (hp : Bytes S w y e.cmd) (hr : rightB e = true) (hx : xs.length ≤ 90000000) :
    Calls Try.prog 52 #[.agg #[.pointer (some ⟨g, 0, none⟩)], .agg #[.int .i64 e.kind, .int .i64 e.term, y]] w fun r w' => (∃ v, r = .returned v) ∧ WrS 142 S B w' g (xs ++ encE e) 0 ∧ Same S w w' ∧ Below B w w' := by
  obtain ⟨k0, k2, t1, t2, cl⟩ := rightB_facts hr
  obtain ⟨hB, -⟩ := id h
  have hBw : B ≤ w.heap.size := by obtain ⟨-, -, v, hblk, -⟩ := h; have := (Array.getElem?_eq_some_iff.1 hblk).1; omega
  obtain ⟨k, t, cmd⟩ := e
  simp only at k0 k2 t1 t2 cl hp ⊢
  obtain ⟨A, c, rfl⟩ := hp.slice
  have hb0 := box_below w (.cells #[.pointer (some ⟨g, 0, none⟩)] 104)
  have hb1 := hb0.alloc hb0.size (.cells #[.int .i64 k, .int .i64 t, .slice A cmd.length c] 33)
  have hblkL := blk_alloc (blk_new w (.cells #[.pointer (some ⟨g, 0, none⟩)] 104)) (.cells #[.int .i64 k, .int .i64 t, .slice A cmd.length c] 33)
  have hblkE := blk_new (w.alloc (.cells #[.pointer (some ⟨g, 0, none⟩)] 104)) (.cells #[.int .i64 k, .int .i64 t, .slice A cmd.length c] 33)
  rw [World.size_alloc] at hblkE
  obtain ⟨l0, lf0⟩ := cells1 hblkL
  obtain ⟨a0, a1, a2, _, _, _⟩ := cells3 hblkE
  have HG := h.grow hb1
  have hs2 : ((w.alloc (.cells #[.pointer (some ⟨g, 0, none⟩)] 104)).alloc (.cells #[.int .i64 k, .int .i64 t, .slice A cmd.length c] 33)).heap.size = w.heap.size + 2 := by simp
  rw [hs2] at HG
  have hq : Bytes (fun b => S b ∨ w.heap.size ≤ b ∧ b < w.heap.size + 2) _ _ cmd := (hp.keep hb1).mono fun b _ h => Or.inl h
  obtain ⟨W0, hW0⟩ : ∃ W0, (w.alloc (.cells #[.pointer (some ⟨g, 0, none⟩)] 104)).alloc (.cells #[.int .i64 k, .int .i64 t, .slice A cmd.length c] 33) = W0 := ⟨_, rfl⟩
  rw [hW0] at hb1 l0 a0 a1 a2 HG hs2 hq
  obtain ⟨S2, hS2⟩ : ∃ S2 : Nat → Prop, S2 = fun b => S b ∨ w.heap.size ≤ b ∧ b < w.heap.size + 2 := ⟨_, rfl⟩
  rw [← hS2] at HG hq
  have hSL : S2 w.heap.size := by rw [hS2]; exact .inr ⟨Nat.le_refl _, by omega⟩
  have hSE : S2 (w.heap.size + 1) := by rw [hS2]; exact .inr ⟨by omega, by omega⟩
  have hS2w : ∀ b, S2 b → b < W0.heap.size := by
    intro b hb
    rw [hS2] at hb
    rw [hs2]
    rcases hb with hb | hb
    · have := hS b hb; omega
    · omega
  have hSS2 : ∀ b, S b → S2 b := fun b hb => by rw [hS2]; exact .inl hb
  have K := Lib.hid (And.intro hW0 (And.intro hS2w (And.intro hSS2 (And.intro hb1 (And.intro hx cl)))))
  have HQ := Lib.hid hq
  have HSL := Lib.hid (And.intro hSL hSE)
  have HH := Lib.hid HG
  have Hbl0 := Lib.hid (Same.of_below' hb1 S)
  clear h hS hp hr hb0 hb1 hblkL hblkE HG hs2 hq hS2 hSL hSE hS2w hSS2 hx cl lf0
  go_enter Try.func52, Try.ntmps52
  go_wp2_with fail
  clear hW0
  refine (wnum_at1 S2 B g xs (k + 64) W0 HH.out K.out.2.1 (by omega) (by omega) (by have := K.out; omega)).mono ?_
  rintro _ w1 ⟨⟨v1, rfl⟩, hw1, hsm1, hbl1⟩
  have l0' := hsm1.cell HSL.out.1 l0
  have b1 := hsm1.cell HSL.out.2 a1
  have b2 := hsm1.cell HSL.out.2 a2
  have HW1 := Lib.hid hw1
  have HS1 := Lib.hid hsm1
  clear hw1 hsm1
  go_wp2_with fail
  refine (wnum_at6 S2 B g _ t w1 HW1.out (fun b hb => Nat.lt_of_lt_of_le (K.out.2.1 b hb) HS1.out.size) (by omega) (by omega) (by have := K.out; simp [be_length]; omega)).mono ?_
  rintro _ w2 ⟨⟨v2, rfl⟩, hw2, hsm2, hbl2⟩
  have l0'' := hsm2.cell HSL.out.1 l0'
  have c2 := hsm2.cell HSL.out.2 b2
  have HW2 := Lib.hid hw2
  have HS2 := Lib.hid (HS1.out.trans hsm2)
  clear hw2 hsm2
  go_wp2_with fail
  refine (wbytes_at2 S2 B g _ cmd _ w2 HW2.out (fun b hb => Nat.lt_of_lt_of_le (K.out.2.1 b hb) HS2.out.size) (HQ.out.keepS HS2.out) (by have := K.out; simp [be_length]; omega) (by have := K.out; omega)).mono ?_
  rintro _ w3 ⟨⟨v3, rfl⟩, hw3, hsm3, hbl3⟩
  have HW3 := Lib.hid hw3
  have HS3 := Lib.hid (HS2.out.trans hsm3)
  have HB3 := Lib.hid (((K.out.2.2.2.1.mono hBw).trans hbl1).trans (hbl2.trans hbl3))
  clear hw3 hsm3 hbl1 hbl2 hbl3
  go_wp2_with fail
  go_end0
  refine ⟨⟨_, rfl⟩, ?_, Hbl0.out.trans (HS3.out.mono K.out.2.2.1), HB3.out⟩
  have h := HW3.out.mono (S' := S) K.out.2.2.1
  simpa [encE, List.append_assoc] using h
end Go.Proofs.Ytoaoldhajpbenaa

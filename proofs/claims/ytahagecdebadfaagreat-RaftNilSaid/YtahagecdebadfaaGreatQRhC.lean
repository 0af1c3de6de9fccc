/- Texts that belong together, in one file: RfR, RfS, RfU, RfV, RhB, RhC. No statement is proved here. -/
import Derived.Test.YtahagecdebadfaaGreatQRfQ
import Derived.Test.YtahagecdebadfaaGreatQEntAA
import Derived.Test.YtahagecdebadfaaGreatQEntU
namespace Go.Proofs.YtahagecdebadfaaGreat
open Go.RowKit

set_option maxHeartbeats 4000000 in
theorem rfeed_first (p q : Nat) (dst : Nat) (me term c rd n qu : Int) (x2 x7 x9 x11 : Value) (g : Lg) (w : World) (h : Alone p q me term c rd n qu x2 x7 x9 x11 g w) (hg : g.Good)
    (hd : dst < 5) (hn : g.a < n) (hn2 : n ≤ 2199023255552) :
    Calls Tryz.prog 49 #[.pointer (some ⟨p, 0, none⟩), .pointer (some ⟨q, 0, none⟩), .int .i64 dst] w fun e w' => e = .returned (.tuple #[]) ∧
      ∃ v lv, w.cell? ⟨p, 4, none⟩ = some lv ∧ w'.heap[p]? = some (.cells #[.int .i64 me, .int .i64 term, x2, .int .i64 me, lv, .int .i64 c, .iface 95 (.pointer (some ⟨q, 0, none⟩)), x7, .int .i64 qu, x9, .slice none 0 0, x11, v] 92 (0, 0)) ∧ Sm (fun b => ¬ b = p) w w' := by
  obtain ⟨lv, hpq, h, hq, hL⟩ := h
  obtain ⟨⟨c0, c1, c2, c3, c4, c5, c6, c7, c8, c9, c10, c11, c12⟩, cf⟩ := cells13 h
  have Hp := Lib.hid h
  have HL := Lib.hid hL
  have hF := floor_any lv g w hL
  have HF := Lib.hid hF
  have hdi : (dst : Int) < 5 := by omega
  have hnq : w.cell? ⟨q, 1 + dst, none⟩ = some (.int .i64 n) := by
    obtain ⟨⟨-, d1, d2, d3, d4, d5, -⟩, -⟩ := cells16 hq
    obtain rfl | rfl | rfl | rfl | rfl : dst = 0 ∨ dst = 1 ∨ dst = 2 ∨ dst = 3 ∨ dst = 4 := by omega
    all_goals assumption
  have ha0 := hg.a0
  clear hF hL h hq
  go_enter Tryz.func49, Tryz.ntmps49
  go_wp2_with fail
  refine HF.out.mono ?_
  rintro e w1 ⟨rfl, hb1⟩
  have k1 := cell_keep hb1 hnq
  have k4 := cell_keep hb1 c4
  have k5 := cell_keep hb1 c5
  have Hp1 := Lib.hid (blk_keep hb1 Hp.out)
  have HL1 := Lib.hid (HL.out.keep hb1)
  clear c0 c1 c2 c3 c5 c6 c7 c8 c9 c10 c11 c12 cf hnq
  go_wp2_with fail
  have HT := Lib.hid fun V (hV : Below w1.heap.size w1 V) => term_any lv g (n - 1) V (HL1.out.keep hV) hg
  have HSl := Lib.hid fun V (hV : Below w1.heap.size w1 V) => slice_any lv g n 16 V (HL1.out.keep hV) hg
  have hwr : IntKind.i64.wrap (n - 1) = n - 1 := IntWalk.i64_in _ (by omega)
  have Hsend := Lib.hid fun V (hV : Below w1.heap.size w1 V) (at2 : Int) lA ln lc => rsend_first p 7 dst me term (n - 1) at2 c 0 false lA none ln lc 0 0 _ _ _ _ _ _ _ _ _ _ 0 0 0 0 V (blk_keep hV Hp1.out)
  refine wp_region_held_drew (S := (fun w' => w'.cell? ⟨p, 4, none⟩ = some lv ∧ w'.cell? ⟨p, 5, none⟩ = some (.int .i64 c))) (by kernel_rfl) ?_ ?_
  · ((try dsimp only); first | exact ⟨s4, s5⟩ | go_keep)
  intro hHeld
  refine rg_take 0 (v := ?_) rfl (by kernel_rfl) (by kernel_rfl) (by kernel_rfl) (fun _ _ _ h => h) (by rfl) (by assumption) ?_ ?_
  rotate_left 1
  · (intro w hSw; (try dsimp only at hSw); go_simp; with_reducible rfl)
  try simp only [Act.put, List.setIfInBounds_toArray, List.set_cons_zero, List.set_cons_succ]
  refine rg_take 1 (v := ?_) rfl (by kernel_rfl) (by kernel_rfl) (by kernel_rfl) (fun _ _ _ h => h) (by rfl) (by assumption) ?_ ?_
  rotate_left 1
  · (intro w hSw; (try dsimp only at hSw); go_simp; with_reducible rfl)
  try simp only [Act.put, List.setIfInBounds_toArray, List.set_cons_zero, List.set_cons_succ]
  refine rg_take 2 (v := ?_) rfl (by kernel_rfl) (by kernel_rfl) (by kernel_rfl) (fun _ _ _ h => h) (by rfl) (by assumption) ?_ ?_
  rotate_left 1
  · (intro w hSw; (try dsimp only at hSw); go_simp; with_reducible rfl)
  try simp only [Act.put, List.setIfInBounds_toArray, List.set_cons_zero, List.set_cons_succ]
  refine rg_take 3 (v := ?_) rfl (by kernel_rfl) (by kernel_rfl) (by kernel_rfl) (fun _ _ _ h => h) (by rfl) (by assumption) ?_ ?_
  rotate_left 1
  · (intro w hSw; (try dsimp only at hSw); go_simp; with_reducible rfl)
  try simp only [Act.put, List.setIfInBounds_toArray, List.set_cons_zero, List.set_cons_succ]
  refine rg_take 4 (v := ?_) rfl (by kernel_rfl) (by kernel_rfl) (by kernel_rfl) (fun _ _ _ h => h) (by rfl) (by assumption) ?_ ?_
  rotate_left 1
  · (intro w hSw; (try dsimp only at hSw); go_simp; with_reducible rfl)
  try simp only [Act.put, List.setIfInBounds_toArray, List.set_cons_zero, List.set_cons_succ]
  refine rg_take 5 (v := ?_) rfl (by kernel_rfl) (by kernel_rfl) (by kernel_rfl) (fun _ _ _ h => h) (by rfl) (by assumption) ?_ ?_
  rotate_left 1
  · (intro w hSw; (try dsimp only at hSw); go_simp; with_reducible rfl)
  try simp only [Act.put, List.setIfInBounds_toArray, List.set_cons_zero, List.set_cons_succ]
  refine rg_take 6 (v := ?_) rfl (by kernel_rfl) (by kernel_rfl) (by kernel_rfl) (fun _ _ _ h => h) (by rfl) (by assumption) ?_ ?_
  rotate_left 1
  · (intro w hSw; (try dsimp only at hSw); go_simp; with_reducible rfl)
  try simp only [Act.put, List.setIfInBounds_toArray, List.set_cons_zero, List.set_cons_succ]
  refine rg_take 7 (v := ?_) rfl (by kernel_rfl) (by kernel_rfl) (by kernel_rfl) (fun _ _ _ h => h) (by rfl) (by assumption) ?_ ?_
  rotate_left 1
  · (intro w hSw; (try dsimp only at hSw); go_simp; with_reducible rfl)
  try simp only [Act.put, List.setIfInBounds_toArray, List.set_cons_zero, List.set_cons_succ]
  refine rg_take 8 (v := ?_) rfl (by kernel_rfl) (by kernel_rfl) (by kernel_rfl) (fun _ _ _ h => h) (by rfl) (by assumption) ?_ ?_
  rotate_left 1
  · (intro w hSw; (try dsimp only at hSw); go_simp; with_reducible rfl)
  try simp only [Act.put, List.setIfInBounds_toArray, List.set_cons_zero, List.set_cons_succ]
  refine rg_take 9 (v := ?_) rfl (by kernel_rfl) (by kernel_rfl) (by kernel_rfl) (fun _ _ _ h => h) (by rfl) (by assumption) ?_ ?_
  rotate_left 1
  · (intro w hSw; (try dsimp only at hSw); go_simp; with_reducible rfl)
  try simp only [Act.put, List.setIfInBounds_toArray, List.set_cons_zero, List.set_cons_succ]
  refine rg_take 11 (v := ?_) rfl (by kernel_rfl) (by kernel_rfl) (by kernel_rfl) (fun _ _ _ h => h) (by rfl) (by assumption) ?_ ?_
  rotate_left 1
  · (intro w hSw; (try dsimp only at hSw); go_simp; with_reducible rfl)
  try simp only [Act.put, List.setIfInBounds_toArray, List.set_cons_zero, List.set_cons_succ]
  refine rg_take 12 (v := ?_) rfl (by kernel_rfl) (by kernel_rfl) (by kernel_rfl) (fun _ _ _ h => h) (by rfl) (by assumption) ?_ ?_
  rotate_left 1
  · (intro w hSw; (try dsimp only at hSw); go_simp; with_reducible rfl)
  try simp only [Act.put, List.setIfInBounds_toArray, List.set_cons_zero, List.set_cons_succ]
  refine rg_take 13 (v := ?_) rfl (by kernel_rfl) (by kernel_rfl) (by kernel_rfl) (fun _ _ _ h => h) (by rfl) (by assumption) ?_ ?_
  rotate_left 1
  · (intro w hSw; (try dsimp only at hSw); go_simp; with_reducible rfl)
  try simp only [Act.put, List.setIfInBounds_toArray, List.set_cons_zero, List.set_cons_succ]
  refine rg_take 14 (v := ?_) rfl (by kernel_rfl) (by kernel_rfl) (by kernel_rfl) (fun _ _ _ h => h) (by rfl) (by assumption) ?_ ?_
  rotate_left 1
  · (intro w hSw; (try dsimp only at hSw); go_simp; with_reducible rfl)
  try simp only [Act.put, List.setIfInBounds_toArray, List.set_cons_zero, List.set_cons_succ]
  refine rg_take 15 (v := ?_) rfl (by kernel_rfl) (by kernel_rfl) (by kernel_rfl) (fun _ _ _ h => h) (by rfl) (by assumption) ?_ ?_
  rotate_left 1
  · (intro w hSw; (try dsimp only at hSw); go_simp; with_reducible rfl)
  try simp only [Act.put, List.setIfInBounds_toArray, List.set_cons_zero, List.set_cons_succ]
  refine rg_take 17 (v := ?_) rfl (by kernel_rfl) (by kernel_rfl) (by kernel_rfl) (fun _ _ _ h => h) (by rfl) (by assumption) ?_ ?_
  rotate_left 1
  · (intro w hSw; (try dsimp only at hSw); go_simp; with_reducible rfl)
  try simp only [Act.put, List.setIfInBounds_toArray, List.set_cons_zero, List.set_cons_succ]
  refine rg_take 18 (v := ?_) rfl (by kernel_rfl) (by kernel_rfl) (by kernel_rfl) (fun _ _ _ h => h) (by rfl) (by assumption) ?_ ?_
  rotate_left 1
  · (intro w hSw; (try dsimp only at hSw); go_simp; with_reducible rfl)
  try simp only [Act.put, List.setIfInBounds_toArray, List.set_cons_zero, List.set_cons_succ]
  refine rg_take 19 (v := ?_) rfl (by kernel_rfl) (by kernel_rfl) (by kernel_rfl) (fun _ _ _ h => h) (by rfl) (by assumption) ?_ ?_
  rotate_left 1
  · (intro w hSw; (try dsimp only at hSw); go_simp; with_reducible rfl)
  try simp only [Act.put, List.setIfInBounds_toArray, List.set_cons_zero, List.set_cons_succ]
  refine rg_take 20 (v := ?_) rfl (by kernel_rfl) (by kernel_rfl) (by kernel_rfl) (fun _ _ _ h => h) (by rfl) (by assumption) ?_ ?_
  rotate_left 1
  · (intro w hSw; (try dsimp only at hSw); go_simp; with_reducible rfl)
  try simp only [Act.put, List.setIfInBounds_toArray, List.set_cons_zero, List.set_cons_succ]
  refine wpAnyH_ready (rs := [10]) (by kernel_rfl) (by simp) ?_
  refine rg_step 10 rfl (fun K hK => ?_) (AllReadyH.nil)
  go_simp
  first | (go_at_call 77; refine (HT.out _ (by exact (Below.refl _ _).drew)).mono ?_; rintro _ w2 ⟨rfl, hb2'⟩; have hb2 : Below w1.heap.size w1 w2 := below_of_drew hb2'; have t4 := cell_keep hb2 k4; have t5 := cell_keep hb2 k5) | (go_at_call 96; refine (HSl.out _ (by exact hb2)).mono ?_; rintro _ w3 ⟨sv, rfl, hsv, hb3'⟩; have hb3 := below_then hb2 hb3'; obtain ⟨lA, lc, rfl⟩ := hsv.slice; have u4 := cell_keep hb3 k4; have u5 := cell_keep hb3 k5) | (go_at_call 78; refine (Hsend.out _ (by exact hb3) _ _ _ _).mono ?_; rintro _ w4 ⟨rfl, v, hp4, hs4⟩; obtain ⟨⟨-, -, -, -, s4, s5, -⟩, -⟩ := cells13 hp4)
  go_wp2_with fail
  refine hK.out _ _ ?_ ?_
  · ((try dsimp only); first | exact ⟨s4, s5⟩ | go_keep)
  clear hHeld hK K
  intro hHeld
  try simp only [Act.put, List.setIfInBounds_toArray, List.set_cons_zero, List.set_cons_succ]
  refine wpAnyH_ready (rs := [16]) (by kernel_rfl) (by simp) ?_
  refine rg_step 16 rfl (fun K hK => ?_) (AllReadyH.nil)
  go_simp
  first | (go_at_call 77; refine (HT.out _ (by exact (Below.refl _ _).drew)).mono ?_; rintro _ w2 ⟨rfl, hb2'⟩; have hb2 : Below w1.heap.size w1 w2 := below_of_drew hb2'; have t4 := cell_keep hb2 k4; have t5 := cell_keep hb2 k5) | (go_at_call 96; refine (HSl.out _ (by exact hb2)).mono ?_; rintro _ w3 ⟨sv, rfl, hsv, hb3'⟩; have hb3 := below_then hb2 hb3'; obtain ⟨lA, lc, rfl⟩ := hsv.slice; have u4 := cell_keep hb3 k4; have u5 := cell_keep hb3 k5) | (go_at_call 78; refine (Hsend.out _ (by exact hb3) _ _ _ _).mono ?_; rintro _ w4 ⟨rfl, v, hp4, hs4⟩; obtain ⟨⟨-, -, -, -, s4, s5, -⟩, -⟩ := cells13 hp4)
  go_wp2_with fail
  refine hK.out _ _ ?_ ?_
  · ((try dsimp only); first | exact ⟨s4, s5⟩ | go_keep)
  clear hHeld hK K
  intro hHeld
  try simp only [Act.put, List.setIfInBounds_toArray, List.set_cons_zero, List.set_cons_succ]
  refine rg_take 21 (v := ?_) rfl (by kernel_rfl) (by kernel_rfl) (by kernel_rfl) (fun _ _ _ h => h) (by rfl) (by assumption) ?_ ?_
  rotate_left 1
  · (intro w hSw; (try dsimp only at hSw); go_simp; with_reducible rfl)
  try simp only [Act.put, List.setIfInBounds_toArray, List.set_cons_zero, List.set_cons_succ]
  refine wpAnyH_ready (rs := [22]) (by kernel_rfl) (by simp) ?_
  refine rg_step 22 rfl (fun K hK => ?_) (AllReadyH.nil)
  go_simp
  first | (go_at_call 77; refine (HT.out _ (by exact (Below.refl _ _).drew)).mono ?_; rintro _ w2 ⟨rfl, hb2'⟩; have hb2 : Below w1.heap.size w1 w2 := below_of_drew hb2'; have t4 := cell_keep hb2 k4; have t5 := cell_keep hb2 k5) | (go_at_call 96; refine (HSl.out _ (by exact hb2)).mono ?_; rintro _ w3 ⟨sv, rfl, hsv, hb3'⟩; have hb3 := below_then hb2 hb3'; obtain ⟨lA, lc, rfl⟩ := hsv.slice; have u4 := cell_keep hb3 k4; have u5 := cell_keep hb3 k5) | (go_at_call 78; refine (Hsend.out _ (by exact hb3) _ _ _ _).mono ?_; rintro _ w4 ⟨rfl, v, hp4, hs4⟩; obtain ⟨⟨-, -, -, -, s4, s5, -⟩, -⟩ := cells13 hp4)
  go_wp2_with fail
  refine hK.out _ _ ?_ ?_
  · ((try dsimp only); first | exact ⟨s4, s5⟩ | go_keep)
  clear hHeld hK K
  intro hHeld
  try simp only [Act.put, List.setIfInBounds_toArray, List.set_cons_zero, List.set_cons_succ]
  refine wpAnyH_done (by kernel_rfl) ?_ _
  go_end0
  exact ⟨rfl, v, lv, c4, hp4, ((Sm.of_below' hb1 _).trans (Sm.of_below' hb3 _)).trans hs4⟩

/-- Offer's own function for each. -/
theorem rOfferf_any (p q R X : Nat) (dst : Nat) (w : World) (hr : w.cell? ⟨R, 0, none⟩ = some (.pointer (some ⟨p, 0, none⟩))) (hx : w.cell? ⟨X, 0, none⟩ = some (.pointer (some ⟨q, 0, none⟩))) {Post : Ending → World → Prop}
    (hF : Calls Tryz.prog 49 #[.pointer (some ⟨p, 0, none⟩), .pointer (some ⟨q, 0, none⟩), .int .i64 dst] w fun e w' => e = .returned (.tuple #[]) ∧ Post (.returned (.tuple #[])) w') :
    Calls Tryz.prog 74 #[.int .i64 dst, .pointer (some ⟨R, 0, none⟩), .pointer (some ⟨X, 0, none⟩)] w Post := by
  have HF := Lib.hid hF
  clear hF
  go_enter Tryz.func74, Tryz.ntmps74
  go_wp2_with fail
  refine HF.out.mono ?_
  rintro e w1 ⟨rfl, hp⟩
  go_wp2_with fail
  go_end0
  exact hp
attribute [local go_sem ↓] Go.wp_at_zero Go.wp_at_succ
set_option maxHeartbeats 4000000 in
/-- One other is a member: it alone is called. -/
theorem reach_one (p R X : Nat) (me : Int) (d : Nat) (all : Nat) (ha : all < 256) (x1 x2 x3 x4 x5 x6 x7 x8 x9 x10 x11 x12 : Value) (w : World) (h : w.heap[p]? = some (.cells #[.int .i64 me, x1, x2, x3, x4, x5, x6, x7, x8, x9, x10, x11, x12] 92 (0, 0))) (_hm : 0 ≤ me) (hm' : me < 5) (hd : d < 5) (hdm : (d : Int) ≠ me) {Q : World → Prop}
    (hM : ∀ W, Below w.heap.size w W → Calls Tryz.prog 43 #[.pointer (some ⟨p, 0, none⟩)] W fun e w' => e = .returned (.int .i64 all) ∧ Below W.heap.size W w')
    (hC : ∀ W, Below w.heap.size w W → Calls Tryz.prog 74 #[.int .i64 d, .pointer (some ⟨R, 0, none⟩), .pointer (some ⟨X, 0, none⟩)] W fun e w' => e = .returned (.tuple #[]) ∧ w'.cell? ⟨p, 0, none⟩ = some (.int .i64 me) ∧ Q w')
    (hyes : hasB all d = true) (hno : ∀ i : Nat, i < 5 → (i : Int) ≠ me → i ≠ d → hasB all i = false) :
    Calls Tryz.prog 46 #[.pointer (some ⟨p, 0, none⟩), .func (Fn.func 74) #[] #[.pointer (some ⟨R, 0, none⟩), .pointer (some ⟨X, 0, none⟩)]] w fun e w' => e = .returned (.tuple #[]) ∧ Q w' := by
  obtain ⟨⟨c0, c1, c2, c3, c4, c5, c6, c7, c8, c9, c10, c11, c12⟩, hf⟩ := cells13 h
  have HM := Lib.hid (hM w (Below.refl _ _))
  have HC := Lib.hid hC
  have Hno := Lib.hid hno
  have Hyes := Lib.hid hyes
  have hh := fun i W (hi : i < 5) => shas_any all i W ha hi
  have Hh := Lib.hid hh
  clear hM hno hh hC hyes
  go_enter Tryz.func46, Tryz.ntmps46
  go_wp2_with fail
  refine HM.out.mono ?_
  rintro e w1 ⟨rfl, hb1⟩
  have k0 := cell_keep hb1 c0
  go_wp2_with fail
  go_loopw [5] (fun n wr => ∃ k : Nat, n = .int .i64 k ∧ k ≤ 5 ∧ wr.cell? ⟨p, 0, none⟩ = some (.int .i64 me) ∧ ((k ≤ d ∧ Below w.heap.size w wr) ∨ (d < k ∧ Q wr))) (fun n _ => (5 - intOf n).toNat)
  case atStart => exact ⟨0, rfl, by omega, k0, .inl ⟨Nat.zero_le _, hb1⟩⟩
  case round =>
    obtain ⟨k, rfl, hk, kr, hor⟩ := hrel
    have Hor := Lib.hid hor
    clear hor
    by_cases h5 : k = 5
    · subst h5
      go_wp2_with fail
      go_end0
      rcases Hor.out with ⟨h1, -⟩ | ⟨-, h1⟩
      · omega
      · exact ⟨rfl, h1⟩
    · have hk5 : (k : Int) < 5 := by omega
      by_cases hkm : (k : Int) = me
      · have hne : ((k : Int) != me) = false := by rw [hkm]; simp
        go_wp2_with fail
        refine ⟨⟨k + 1, by simp [hkm], by omega, kr, ?_⟩, by simp only [intOf]; omega⟩
        rcases Hor.out with ⟨h1, h2⟩ | ⟨h1, h2⟩
        · exact .inl ⟨by omega, h2⟩
        · exact .inr ⟨by omega, h2⟩
      · have hne : ((k : Int) != me) = true := by simpa using hkm
        have HH := Lib.hid fun W => Hh.out k W (by omega)
        by_cases hkd : k = d
        · subst hkd
          rw [Hyes.out] at HH
          have HCk := Lib.hid (fun hb => HC.out wr hb)
          go_wp2_with fail
          refine (HH.out _).mono ?_
          rintro e w2 ⟨rfl, hw2⟩
          subst hw2
          go_wp2_with fail
          have hb : Below w.heap.size w wr := by
            rcases Hor.out with ⟨-, h2⟩ | ⟨h1, -⟩
            · exact h2
            · omega
          refine (HCk.out hb).mono ?_
          rintro e w3 ⟨rfl, q0, hQ⟩
          have HQ := Lib.hid hQ
          clear hQ
          go_wp2_with fail
          exact ⟨⟨k + 1, by simp, by omega, q0, .inr ⟨by omega, HQ.out⟩⟩, by simp only [intOf]; omega⟩
        · have e1 := Hno.out k (by omega) hkm hkd
          rw [e1] at HH
          go_wp2_with fail
          refine (HH.out _).mono ?_
          rintro e w2 ⟨rfl, hw2⟩
          subst hw2
          go_wp2_with fail
          refine ⟨⟨k + 1, by simp, by omega, kr, ?_⟩, by simp only [intOf]; omega⟩
          rcases Hor.out with ⟨h1, h2⟩ | ⟨h1, h2⟩
          · exact .inl ⟨by omega, h2⟩
          · exact .inr ⟨by omega, h2⟩
end Go.Proofs.YtahagecdebadfaaGreat

namespace Go.Proofs.YtahagecdebadfaaGreat
open Go.RowKit

set_option maxHeartbeats 4000000 in
theorem rcfg_two {S : Nat → Prop} (p q : Nat) (term c rd n qu : Int) (x2 x7 x9 x11 cv : Value) (g : Lg) (w : World) (h : Alone p q 0 term c rd n qu x2 x7 x9 x11 g w) (hg : g.Good)
    (hv : Bytes S w cv [3]) (hmem : g.mem = 1) (hch : changeAt g ≤ c) (htc : g.termAt c = term) :
    Calls Tryz.prog 72 #[.pointer (some ⟨p, 0, none⟩), cv] w fun e w' => e = .returned (.int .i64 0) ∧ Below w.heap.size w w' := by
  obtain ⟨lv, hpq, h, hq, hL⟩ := h
  obtain ⟨⟨c0, c1, c2, c3, c4, c5, c6, c7, c8, c9, c10, c11, c12⟩, cf⟩ := cells13 h
  have Hp := Lib.hid h
  have HL := Lib.hid hL
  obtain ⟨vb, vo, vc, rfl, -, -, -, -, hcv⟩ := hv.form (by decide)
  have hc0 : w.cell? ⟨vb, vo, none⟩ = some (.int .u8 3) := by simpa using hcv 0 (.int .u8 3) (by simp [byteCells])
  have HC := Lib.hid fun V (hV : Below w.heap.size w V) => change_any lv g V (HL.out.keep hV) hg
  have HT := Lib.hid (show ∀ V (hV : Below w.heap.size w V), Calls Tryz.prog 77 #[lv, .int .i64 c] V fun e w' => e = .returned (.int .i64 term) ∧ Below V.heap.size V w' from fun V hV => by
    have := term_any lv g c V (HL.out.keep hV) hg
    rw [htc] at this; exact this)
  have HM := Lib.hid (show ∀ V (hV : Below w.heap.size w V), Calls Tryz.prog 43 #[.pointer (some ⟨p, 0, none⟩)] V fun e w' => e = .returned (.int .i64 1) ∧ Below V.heap.size V w' from fun V hV => by
    have := rmembers_any p _ _ _ _ _ _ _ _ _ _ _ _ _ g V (blk_keep hV Hp.out) (HL.out.keep hV) hg
    rw [hmem] at this; exact this)
  clear h hL hq hcv hv
  obtain ⟨ch, hche⟩ : ∃ ch, changeAt g = ch := ⟨_, rfl⟩
  rw [hche] at hch HC
  clear hche htc hmem cf
  have k1 : (c < ch) = False := eq_false (by omega)
  have k2 : decide (c < ch) = false := by simp; omega
  have hx : bits .xor .i64 3 1 = 2 := by decide
  have Hsz : ∀ V, Calls Tryz.prog 92 #[.int .i64 2] V fun e w' => e = .returned (.int .i64 1) ∧ V = w' := fun V => by
    have h2 : pop 2 = 1 := by decide +kernel
    have := ssize_any 2 (by omega) V
    rw [h2] at this; exact this
  have Hhas : ∀ V, Calls Tryz.prog 44 #[.int .i64 3, .int .i64 0] V fun e w' => e = .returned (.bool true) ∧ V = w' := fun V => shas_any 3 0 V (by omega) (by omega)
  have HSz := Lib.hid Hsz
  have HHas := Lib.hid Hhas
  clear Hsz Hhas
  go_enter Tryz.func72, Tryz.ntmps72
  go_wp2_with fail
  refine wp_region_held_drew (S := (fun w' => w'.cell? ⟨p, 1, none⟩ = some (.int .i64 term) ∧ w'.cell? ⟨p, 4, none⟩ = some lv ∧ w'.cell? ⟨p, 5, none⟩ = some (.int .i64 c))) (by kernel_rfl) ?_ ?_
  · ((try dsimp only); go_keep)
  intro hHeld
  refine rg_take 0 (v := ?_) rfl (by kernel_rfl) (by kernel_rfl) (by kernel_rfl) (fun _ _ _ h => h) (by rfl) (by assumption) ?_ ?_
  rotate_left 1
  · (intro w hSw; (try dsimp only at hSw); go_simp; with_reducible rfl)
  try simp only [Act.put, List.setIfInBounds_toArray, List.set_cons_zero, List.set_cons_succ]
  refine rg_take 1 (v := ?_) rfl (by kernel_rfl) (by kernel_rfl) (by kernel_rfl) (fun _ _ _ h => h) (by rfl) (by assumption) ?_ ?_
  rotate_left 1
  · (intro w hSw; (try dsimp only at hSw); go_simp; with_reducible rfl)
  try simp only [Act.put, List.setIfInBounds_toArray, List.set_cons_zero, List.set_cons_succ]
  refine rg_take 2 (v := ?_) rfl (by kernel_rfl) (by kernel_rfl) (by kernel_rfl) (fun _ _ _ h => h) (by rfl) (by assumption) ?_ ?_
  rotate_left 1
  · (intro w hSw; (try dsimp only at hSw); go_simp; with_reducible rfl)
  try simp only [Act.put, List.setIfInBounds_toArray, List.set_cons_zero, List.set_cons_succ]
  refine rg_take 3 (v := ?_) rfl (by kernel_rfl) (by kernel_rfl) (by kernel_rfl) (fun _ _ _ h => h) (by rfl) (by assumption) ?_ ?_
  rotate_left 1
  · (intro w hSw; (try dsimp only at hSw); go_simp; with_reducible rfl)
  try simp only [Act.put, List.setIfInBounds_toArray, List.set_cons_zero, List.set_cons_succ]
  refine rg_take 5 (v := ?_) rfl (by kernel_rfl) (by kernel_rfl) (by kernel_rfl) (fun _ _ _ h => h) (by rfl) (by assumption) ?_ ?_
  rotate_left 1
  · (intro w hSw; (try dsimp only at hSw); go_simp; with_reducible rfl)
  try simp only [Act.put, List.setIfInBounds_toArray, List.set_cons_zero, List.set_cons_succ]
  refine rg_take 6 (v := ?_) rfl (by kernel_rfl) (by kernel_rfl) (by kernel_rfl) (fun _ _ _ h => h) (by rfl) (by assumption) ?_ ?_
  rotate_left 1
  · (intro w hSw; (try dsimp only at hSw); go_simp; with_reducible rfl)
  try simp only [Act.put, List.setIfInBounds_toArray, List.set_cons_zero, List.set_cons_succ]
  refine rg_take 7 (v := ?_) rfl (by kernel_rfl) (by kernel_rfl) (by kernel_rfl) (fun _ _ _ h => h) (by rfl) (by assumption) ?_ ?_
  rotate_left 1
  · (intro w hSw; (try dsimp only at hSw); go_simp; with_reducible rfl)
  try simp only [Act.put, List.setIfInBounds_toArray, List.set_cons_zero, List.set_cons_succ]
  refine rg_take 8 (v := ?_) rfl (by kernel_rfl) (by kernel_rfl) (by kernel_rfl) (fun _ _ _ h => h) (by rfl) (by assumption) ?_ ?_
  rotate_left 1
  · (intro w hSw; (try dsimp only at hSw); go_simp; with_reducible rfl)
  try simp only [Act.put, List.setIfInBounds_toArray, List.set_cons_zero, List.set_cons_succ]
  refine wpAnyH_ready (rs := [4]) (by kernel_rfl) (by simp) ?_
  refine rg_step 4 rfl (fun K hK => ?_) (AllReadyH.nil)
  go_simp
  first | (go_at_call 94; refine (HC.out _ (by exact (Below.refl _ _).drew)).mono ?_; rintro _ w2 ⟨rfl, hb2'⟩; have hb2 : Below w.heap.size w w2 := below_of_drew hb2'; have t1 := cell_keep hb2 c1; have t4 := cell_keep hb2 c4; have t5 := cell_keep hb2 c5) | (go_at_call 77; refine (HT.out _ (by exact hb2)).mono ?_; rintro _ w3 ⟨rfl, hb3'⟩; have hb3 := below_then hb2 hb3'; have u1 := cell_keep hb3 c1; have u4 := cell_keep hb3 c4; have u5 := cell_keep hb3 c5)
  go_wp2_with fail
  refine hK.out _ _ ?_ ?_
  · ((try dsimp only); go_keep)
  clear hHeld hK K
  intro hHeld
  try simp only [Act.put, List.setIfInBounds_toArray, List.set_cons_zero, List.set_cons_succ]
  refine rg_take 9 (v := ?_) rfl (by kernel_rfl) (by kernel_rfl) (by kernel_rfl) (fun _ _ _ h => h) (by rfl) (by assumption) ?_ ?_
  rotate_left 1
  · (intro w hSw; (try dsimp only at hSw); go_simp; with_reducible rfl)
  try simp only [Act.put, List.setIfInBounds_toArray, List.set_cons_zero, List.set_cons_succ]
  refine rg_take 10 (v := ?_) rfl (by kernel_rfl) (by kernel_rfl) (by kernel_rfl) (fun _ _ _ h => h) (by rfl) (by assumption) ?_ ?_
  rotate_left 1
  · (intro w hSw; (try dsimp only at hSw); go_simp; with_reducible rfl)
  try simp only [Act.put, List.setIfInBounds_toArray, List.set_cons_zero, List.set_cons_succ]
  refine rg_take 11 (v := ?_) rfl (by kernel_rfl) (by kernel_rfl) (by kernel_rfl) (fun _ _ _ h => h) (by rfl) (by assumption) ?_ ?_
  rotate_left 1
  · (intro w hSw; (try dsimp only at hSw); go_simp; with_reducible rfl)
  try simp only [Act.put, List.setIfInBounds_toArray, List.set_cons_zero, List.set_cons_succ]
  refine rg_take 12 (v := ?_) rfl (by kernel_rfl) (by kernel_rfl) (by kernel_rfl) (fun _ _ _ h => h) (by rfl) (by assumption) ?_ ?_
  rotate_left 1
  · (intro w hSw; (try dsimp only at hSw); go_simp; with_reducible rfl)
  try simp only [Act.put, List.setIfInBounds_toArray, List.set_cons_zero, List.set_cons_succ]
  refine rg_take 13 (v := ?_) rfl (by kernel_rfl) (by kernel_rfl) (by kernel_rfl) (fun _ _ _ h => h) (by rfl) (by assumption) ?_ ?_
  rotate_left 1
  · (intro w hSw; (try dsimp only at hSw); go_simp; with_reducible rfl)
  try simp only [Act.put, List.setIfInBounds_toArray, List.set_cons_zero, List.set_cons_succ]
  refine rg_take 14 (v := ?_) rfl (by kernel_rfl) (by kernel_rfl) (by kernel_rfl) (fun _ _ _ h => h) (by rfl) (by assumption) ?_ ?_
  rotate_left 1
  · (intro w hSw; (try dsimp only at hSw); go_simp; with_reducible rfl)
  try simp only [Act.put, List.setIfInBounds_toArray, List.set_cons_zero, List.set_cons_succ]
  refine rg_take 15 (v := ?_) rfl (by kernel_rfl) (by kernel_rfl) (by kernel_rfl) (fun _ _ _ h => h) (by rfl) (by assumption) ?_ ?_
  rotate_left 1
  · (intro w hSw; (try dsimp only at hSw); go_simp; with_reducible rfl)
  try simp only [Act.put, List.setIfInBounds_toArray, List.set_cons_zero, List.set_cons_succ]
  refine rg_take 16 (v := ?_) rfl (by kernel_rfl) (by kernel_rfl) (by kernel_rfl) (fun _ _ _ h => h) (by rfl) (by assumption) ?_ ?_
  rotate_left 1
  · (intro w hSw; (try dsimp only at hSw); go_simp; with_reducible rfl)
  try simp only [Act.put, List.setIfInBounds_toArray, List.set_cons_zero, List.set_cons_succ]
  refine rg_take 17 (v := ?_) rfl (by kernel_rfl) (by kernel_rfl) (by kernel_rfl) (fun _ _ _ h => h) (by rfl) (by assumption) ?_ ?_
  rotate_left 1
  · (intro w hSw; (try dsimp only at hSw); go_simp; with_reducible rfl)
  try simp only [Act.put, List.setIfInBounds_toArray, List.set_cons_zero, List.set_cons_succ]
  refine rg_take 18 (v := ?_) rfl (by kernel_rfl) (by kernel_rfl) (by kernel_rfl) (fun _ _ _ h => h) (by rfl) (by assumption) ?_ ?_
  rotate_left 1
  · (intro w hSw; (try dsimp only at hSw); go_simp; with_reducible rfl)
  try simp only [Act.put, List.setIfInBounds_toArray, List.set_cons_zero, List.set_cons_succ]
  refine rg_take 20 (v := ?_) rfl (by kernel_rfl) (by kernel_rfl) (by kernel_rfl) (fun _ _ _ h => h) (by rfl) (by assumption) ?_ ?_
  rotate_left 1
  · (intro w hSw; (try dsimp only at hSw); go_simp; with_reducible rfl)
  try simp only [Act.put, List.setIfInBounds_toArray, List.set_cons_zero, List.set_cons_succ]
  refine rg_take 21 (v := ?_) rfl (by kernel_rfl) (by kernel_rfl) (by kernel_rfl) (fun _ _ _ h => h) (by rfl) (by assumption) ?_ ?_
  rotate_left 1
  · (intro w hSw; (try dsimp only at hSw); go_simp; with_reducible rfl)
  try simp only [Act.put, List.setIfInBounds_toArray, List.set_cons_zero, List.set_cons_succ]
  refine rg_take 22 (v := ?_) rfl (by kernel_rfl) (by kernel_rfl) (by kernel_rfl) (fun _ _ _ h => h) (by rfl) (by assumption) ?_ ?_
  rotate_left 1
  · (intro w hSw; (try dsimp only at hSw); go_simp; with_reducible rfl)
  try simp only [Act.put, List.setIfInBounds_toArray, List.set_cons_zero, List.set_cons_succ]
  refine rg_take 23 (v := ?_) rfl (by kernel_rfl) (by kernel_rfl) (by kernel_rfl) (fun _ _ _ h => h) (by rfl) (by assumption) ?_ ?_
  rotate_left 1
  · (intro w hSw; (try dsimp only at hSw); go_simp; with_reducible rfl)
  try simp only [Act.put, List.setIfInBounds_toArray, List.set_cons_zero, List.set_cons_succ]
  refine wpAnyH_ready (rs := [19]) (by kernel_rfl) (by simp) ?_
  refine rg_step 19 rfl (fun K hK => ?_) (AllReadyH.nil)
  go_simp
  first | (go_at_call 94; refine (HC.out _ (by exact (Below.refl _ _).drew)).mono ?_; rintro _ w2 ⟨rfl, hb2'⟩; have hb2 : Below w.heap.size w w2 := below_of_drew hb2'; have t1 := cell_keep hb2 c1; have t4 := cell_keep hb2 c4; have t5 := cell_keep hb2 c5) | (go_at_call 77; refine (HT.out _ (by exact hb2)).mono ?_; rintro _ w3 ⟨rfl, hb3'⟩; have hb3 := below_then hb2 hb3'; have u1 := cell_keep hb3 c1; have u4 := cell_keep hb3 c4; have u5 := cell_keep hb3 c5)
  go_wp2_with fail
  refine hK.out _ _ ?_ ?_
  · ((try dsimp only); go_keep)
  clear hHeld hK K
  intro hHeld
  try simp only [Act.put, List.setIfInBounds_toArray, List.set_cons_zero, List.set_cons_succ]
  refine rg_take 24 (v := ?_) rfl (by kernel_rfl) (by kernel_rfl) (by kernel_rfl) (fun _ _ _ h => h) (by rfl) (by assumption) ?_ ?_
  rotate_left 1
  · (intro w hSw; (try dsimp only at hSw); go_simp; with_reducible rfl)
  try simp only [Act.put, List.setIfInBounds_toArray, List.set_cons_zero, List.set_cons_succ]
  refine rg_take 25 (v := ?_) rfl (by kernel_rfl) (by kernel_rfl) (by kernel_rfl) (fun _ _ _ h => h) (by rfl) (by assumption) ?_ ?_
  rotate_left 1
  · (intro w hSw; (try dsimp only at hSw); go_simp; with_reducible rfl)
  try simp only [Act.put, List.setIfInBounds_toArray, List.set_cons_zero, List.set_cons_succ]
  refine rg_take 26 (v := ?_) rfl (by kernel_rfl) (by kernel_rfl) (by kernel_rfl) (fun _ _ _ h => h) (by rfl) (by assumption) ?_ ?_
  rotate_left 1
  · (intro w hSw; (try dsimp only at hSw); go_simp; with_reducible rfl)
  try simp only [Act.put, List.setIfInBounds_toArray, List.set_cons_zero, List.set_cons_succ]
  refine wpAnyH_done (by kernel_rfl) ?_ _
  have v0 := cell_keep hb3 c0
  have vc0 := cell_keep hb3 hc0
  go_wp2_with fail
  refine wp_region_held_drew (S := (fun w' => w'.cell? ⟨p, 0, none⟩ = some (.int .i64 0) ∧ w'.cell? ⟨vb, vo, none⟩ = some (.int .u8 3))) (by kernel_rfl) ?_ ?_
  · ((try dsimp only); go_keep)
  intro hHeld
  refine rg_take 0 (v := ?_) rfl (by kernel_rfl) (by kernel_rfl) (by kernel_rfl) (fun _ _ _ h => h) (by rfl) (by assumption) ?_ ?_
  rotate_left 1
  · (intro w hSw; (try dsimp only at hSw); go_simp; with_reducible rfl)
  try simp only [Act.put, List.setIfInBounds_toArray, List.set_cons_zero, List.set_cons_succ]
  refine rg_take 1 (v := ?_) rfl (by kernel_rfl) (by kernel_rfl) (by kernel_rfl) (fun _ _ _ h => h) (by rfl) (by assumption) ?_ ?_
  rotate_left 1
  · (intro w hSw; (try dsimp only at hSw); go_simp; with_reducible rfl)
  try simp only [Act.put, List.setIfInBounds_toArray, List.set_cons_zero, List.set_cons_succ]
  refine rg_take 2 (v := ?_) rfl (by kernel_rfl) (by kernel_rfl) (by kernel_rfl) (fun _ _ _ h => h) (by rfl) (by assumption) ?_ ?_
  rotate_left 1
  · (intro w hSw; (try dsimp only at hSw); go_simp; with_reducible rfl)
  try simp only [Act.put, List.setIfInBounds_toArray, List.set_cons_zero, List.set_cons_succ]
  refine rg_take 3 (v := ?_) rfl (by kernel_rfl) (by kernel_rfl) (by kernel_rfl) (fun _ _ _ h => h) (by rfl) (by assumption) ?_ ?_
  rotate_left 1
  · (intro w hSw; (try dsimp only at hSw); go_simp; with_reducible rfl)
  try simp only [Act.put, List.setIfInBounds_toArray, List.set_cons_zero, List.set_cons_succ]
  refine rg_take 4 (v := ?_) rfl (by kernel_rfl) (by kernel_rfl) (by kernel_rfl) (fun _ _ _ h => h) (by rfl) (by assumption) ?_ ?_
  rotate_left 1
  · (intro w hSw; (try dsimp only at hSw); go_simp; with_reducible rfl)
  try simp only [Act.put, List.setIfInBounds_toArray, List.set_cons_zero, List.set_cons_succ]
  refine rg_take 5 (v := ?_) rfl (by kernel_rfl) (by kernel_rfl) (by kernel_rfl) (fun _ _ _ h => h) (by rfl) (by assumption) ?_ ?_
  rotate_left 1
  · (intro w hSw; (try dsimp only at hSw); go_simp; with_reducible rfl)
  try simp only [Act.put, List.setIfInBounds_toArray, List.set_cons_zero, List.set_cons_succ]
  refine rg_take 6 (v := ?_) rfl (by kernel_rfl) (by kernel_rfl) (by kernel_rfl) (fun _ _ _ h => h) (by rfl) (by assumption) ?_ ?_
  rotate_left 1
  · (intro w hSw; (try dsimp only at hSw); go_simp; with_reducible rfl)
  try simp only [Act.put, List.setIfInBounds_toArray, List.set_cons_zero, List.set_cons_succ]
  refine rg_take 7 (v := ?_) rfl (by kernel_rfl) (by kernel_rfl) (by kernel_rfl) (fun _ _ _ h => h) (by rfl) (by assumption) ?_ ?_
  rotate_left 1
  · (intro w hSw; (try dsimp only at hSw); go_simp; with_reducible rfl)
  try simp only [Act.put, List.setIfInBounds_toArray, List.set_cons_zero, List.set_cons_succ]
  refine rg_take 8 (v := ?_) rfl (by kernel_rfl) (by kernel_rfl) (by kernel_rfl) (fun _ _ _ h => h) (by rfl) (by assumption) ?_ ?_
  rotate_left 1
  · (intro w hSw; (try dsimp only at hSw); go_simp; with_reducible rfl)
  try simp only [Act.put, List.setIfInBounds_toArray, List.set_cons_zero, List.set_cons_succ]
  refine wpAnyH_ready (rs := [9]) (by kernel_rfl) (by simp) ?_
  refine rg_step 9 rfl (fun K hK => ?_) (AllReadyH.nil)
  go_simp
  first | (go_at_call 43; refine (HM.out _ (by exact hb3.drew)).mono ?_; rintro _ w4 ⟨rfl, hb4'⟩; have hb4 := below_then hb3.drew hb4'; have a0 := cell_keep hb4 c0; have ac0 := cell_keep hb4 hc0) | (go_at_call 92; refine (HSz.out _).mono ?_; rintro _ w5 ⟨rfl, rfl⟩) | (go_at_call 44; refine (HHas.out _).mono ?_; rintro _ w5 ⟨rfl, rfl⟩)
  go_wp2_with fail
  refine hK.out _ _ ?_ ?_
  · ((try dsimp only); go_keep)
  clear hHeld hK K
  intro hHeld
  try simp only [Act.put, List.setIfInBounds_toArray, List.set_cons_zero, List.set_cons_succ]
  refine rg_take 10 (v := ?_) rfl (by kernel_rfl) (by kernel_rfl) (by kernel_rfl) (fun _ _ _ h => h) (by rfl) (by assumption) ?_ ?_
  rotate_left 1
  · (intro w hSw; (try dsimp only at hSw); go_simp; with_reducible rfl)
  try simp only [Act.put, List.setIfInBounds_toArray, List.set_cons_zero, List.set_cons_succ]
  refine wpAnyH_ready (rs := [11]) (by kernel_rfl) (by simp) ?_
  refine rg_step 11 rfl (fun K hK => ?_) (AllReadyH.nil)
  go_simp
  first | (go_at_call 43; refine (HM.out _ (by exact hb3.drew)).mono ?_; rintro _ w4 ⟨rfl, hb4'⟩; have hb4 := below_then hb3.drew hb4'; have a0 := cell_keep hb4 c0; have ac0 := cell_keep hb4 hc0) | (go_at_call 92; refine (HSz.out _).mono ?_; rintro _ w5 ⟨rfl, rfl⟩) | (go_at_call 44; refine (HHas.out _).mono ?_; rintro _ w5 ⟨rfl, rfl⟩)
  go_wp2_with fail
  refine hK.out _ _ ?_ ?_
  · ((try dsimp only); go_keep)
  clear hHeld hK K
  intro hHeld
  try simp only [Act.put, List.setIfInBounds_toArray, List.set_cons_zero, List.set_cons_succ]
  refine rg_take 12 (v := ?_) rfl (by kernel_rfl) (by kernel_rfl) (by kernel_rfl) (fun _ _ _ h => h) (by rfl) (by assumption) ?_ ?_
  rotate_left 1
  · (intro w hSw; (try dsimp only at hSw); go_simp; with_reducible rfl)
  try simp only [Act.put, List.setIfInBounds_toArray, List.set_cons_zero, List.set_cons_succ]
  refine rg_take 13 (v := ?_) rfl (by kernel_rfl) (by kernel_rfl) (by kernel_rfl) (fun _ _ _ h => h) (by rfl) (by assumption) ?_ ?_
  rotate_left 1
  · (intro w hSw; (try dsimp only at hSw); go_simp; with_reducible rfl)
  try simp only [Act.put, List.setIfInBounds_toArray, List.set_cons_zero, List.set_cons_succ]
  refine rg_take 14 (v := ?_) rfl (by kernel_rfl) (by kernel_rfl) (by kernel_rfl) (fun _ _ _ h => h) (by rfl) (by assumption) ?_ ?_
  rotate_left 1
  · (intro w hSw; (try dsimp only at hSw); go_simp; with_reducible rfl)
  try simp only [Act.put, List.setIfInBounds_toArray, List.set_cons_zero, List.set_cons_succ]
  refine rg_take 15 (v := ?_) rfl (by kernel_rfl) (by kernel_rfl) (by kernel_rfl) (fun _ _ _ h => h) (by rfl) (by assumption) ?_ ?_
  rotate_left 1
  · (intro w hSw; (try dsimp only at hSw); go_simp; with_reducible rfl)
  try simp only [Act.put, List.setIfInBounds_toArray, List.set_cons_zero, List.set_cons_succ]
  refine rg_take 16 (v := ?_) rfl (by kernel_rfl) (by kernel_rfl) (by kernel_rfl) (fun _ _ _ h => h) (by rfl) (by assumption) ?_ ?_
  rotate_left 1
  · (intro w hSw; (try dsimp only at hSw); go_simp; with_reducible rfl)
  try simp only [Act.put, List.setIfInBounds_toArray, List.set_cons_zero, List.set_cons_succ]
  refine rg_take 17 (v := ?_) rfl (by kernel_rfl) (by kernel_rfl) (by kernel_rfl) (fun _ _ _ h => h) (by rfl) (by assumption) ?_ ?_
  rotate_left 1
  · (intro w hSw; (try dsimp only at hSw); go_simp; with_reducible rfl)
  try simp only [Act.put, List.setIfInBounds_toArray, List.set_cons_zero, List.set_cons_succ]
  refine rg_take 18 (v := ?_) rfl (by kernel_rfl) (by kernel_rfl) (by kernel_rfl) (fun _ _ _ h => h) (by rfl) (by assumption) ?_ ?_
  rotate_left 1
  · (intro w hSw; (try dsimp only at hSw); go_simp; with_reducible rfl)
  try simp only [Act.put, List.setIfInBounds_toArray, List.set_cons_zero, List.set_cons_succ]
  refine rg_take 19 (v := ?_) rfl (by kernel_rfl) (by kernel_rfl) (by kernel_rfl) (fun _ _ _ h => h) (by rfl) (by assumption) ?_ ?_
  rotate_left 1
  · (intro w hSw; (try dsimp only at hSw); go_simp; with_reducible rfl)
  try simp only [Act.put, List.setIfInBounds_toArray, List.set_cons_zero, List.set_cons_succ]
  refine rg_take 20 (v := ?_) rfl (by kernel_rfl) (by kernel_rfl) (by kernel_rfl) (fun _ _ _ h => h) (by rfl) (by assumption) ?_ ?_
  rotate_left 1
  · (intro w hSw; (try dsimp only at hSw); go_simp; with_reducible rfl)
  try simp only [Act.put, List.setIfInBounds_toArray, List.set_cons_zero, List.set_cons_succ]
  refine rg_take 21 (v := ?_) rfl (by kernel_rfl) (by kernel_rfl) (by kernel_rfl) (fun _ _ _ h => h) (by rfl) (by assumption) ?_ ?_
  rotate_left 1
  · (intro w hSw; (try dsimp only at hSw); go_simp; with_reducible rfl)
  try simp only [Act.put, List.setIfInBounds_toArray, List.set_cons_zero, List.set_cons_succ]
  refine rg_take 22 (v := ?_) rfl (by kernel_rfl) (by kernel_rfl) (by kernel_rfl) (fun _ _ _ h => h) (by rfl) (by assumption) ?_ ?_
  rotate_left 1
  · (intro w hSw; (try dsimp only at hSw); go_simp; with_reducible rfl)
  try simp only [Act.put, List.setIfInBounds_toArray, List.set_cons_zero, List.set_cons_succ]
  refine wpAnyH_ready (rs := [23]) (by kernel_rfl) (by simp) ?_
  refine rg_step 23 rfl (fun K hK => ?_) (AllReadyH.nil)
  go_simp
  first | (go_at_call 43; refine (HM.out _ (by exact hb3.drew)).mono ?_; rintro _ w4 ⟨rfl, hb4'⟩; have hb4 := below_then hb3.drew hb4'; have a0 := cell_keep hb4 c0; have ac0 := cell_keep hb4 hc0) | (go_at_call 92; refine (HSz.out _).mono ?_; rintro _ w5 ⟨rfl, rfl⟩) | (go_at_call 44; refine (HHas.out _).mono ?_; rintro _ w5 ⟨rfl, rfl⟩)
  go_wp2_with fail
  refine hK.out _ _ ?_ ?_
  · ((try dsimp only); go_keep)
  clear hHeld hK K
  intro hHeld
  try simp only [Act.put, List.setIfInBounds_toArray, List.set_cons_zero, List.set_cons_succ]
  refine rg_take 24 (v := ?_) rfl (by kernel_rfl) (by kernel_rfl) (by kernel_rfl) (fun _ _ _ h => h) (by rfl) (by assumption) ?_ ?_
  rotate_left 1
  · (intro w hSw; (try dsimp only at hSw); go_simp; with_reducible rfl)
  try simp only [Act.put, List.setIfInBounds_toArray, List.set_cons_zero, List.set_cons_succ]
  refine rg_take 25 (v := ?_) rfl (by kernel_rfl) (by kernel_rfl) (by kernel_rfl) (fun _ _ _ h => h) (by rfl) (by assumption) ?_ ?_
  rotate_left 1
  · (intro w hSw; (try dsimp only at hSw); go_simp; with_reducible rfl)
  try simp only [Act.put, List.setIfInBounds_toArray, List.set_cons_zero, List.set_cons_succ]
  refine rg_take 26 (v := ?_) rfl (by kernel_rfl) (by kernel_rfl) (by kernel_rfl) (fun _ _ _ h => h) (by rfl) (by assumption) ?_ ?_
  rotate_left 1
  · (intro w hSw; (try dsimp only at hSw); go_simp; with_reducible rfl)
  try simp only [Act.put, List.setIfInBounds_toArray, List.set_cons_zero, List.set_cons_succ]
  refine wpAnyH_done (by kernel_rfl) ?_ _
  clear c0 c1 c2 c3 c4 c5 c6 c7 c8 c9 c10 c11 c12 HC HT HM HSz HHas
  go_wp2_with fail
  go_ret
  exact ⟨rfl, hb4⟩
end Go.Proofs.YtahagecdebadfaaGreat

namespace Go.Proofs.YtahagecdebadfaaGreat
open Go.RowKit

set_option maxHeartbeats 4000000 in
theorem roffer_two (p q : Nat) (term c rd n qu : Int) (x2 x7 x9 x11 cv : Value) (g : Lg) (w : World) (h : Alone p q 0 term c rd n qu x2 x7 x9 x11 g w) (hg : g.Good)
    (hv : Bytes (fun b => ¬ b = p ∧ ¬ b = q) w cv [3]) (ht1 : 1 ≤ term) (ht2 : term ≤ 1099511627776) (ht3 : g.topTerm ≤ term) (hroom : g.ents.length + 1 ≤ 4096)
    (hmem : g.mem = 1) (hch : changeAt g ≤ c) (htc : g.termAt c = term) (hna : g.a < n) (hn2 : n ≤ 2199023255552) :
    Calls Tryz.prog 18 #[.pointer (some ⟨p, 0, none⟩), .int .i64 2, cv] w fun e w' => (∃ pv, e = .returned (.tuple #[.int .i64 (g.top + 1), pv, .int .i64 0])) ∧
      Alone p q 0 term (newCommit (g.adds [⟨2, term, [3]⟩]) term c 0 [0, 0, 0, 0, 0]) rd n qu x2 x7 x9 x11 (g.adds [⟨2, term, [3]⟩]) w' ∧ Sm (fun b => ¬ b = p ∧ ¬ b = q) w w' := by
  have hm : (0 : Int) ≤ 0 := by omega
  have hm' : (0 : Int) < 5 := by omega
  have hA1 : Alone p q 0 term c rd n qu x2 x7 x9 x11 g w := h
  obtain ⟨lv, hpq, h, hq, hL⟩ := h
  go_enter Tryz.func18, Tryz.ntmps18
  go_wp2_with fail
  obtain ⟨W1, hW1⟩ : ∃ W1, w.alloc (.cells #[.pointer (some ⟨p, 0, none⟩)] 32) = W1 := ⟨_, rfl⟩
  have hbW : Below w.heap.size w W1 := by rw [← hW1]; exact box_below w _
  have hplt := (Array.getElem?_eq_some_iff.1 h).1
  have hqlt := (Array.getElem?_eq_some_iff.1 hq).1
  have hrp : ¬ w.heap.size = p := by omega
  have hrq : ¬ w.heap.size = q := by omega
  have r1 : W1.cell? ⟨w.heap.size, 0, none⟩ = some (.pointer (some ⟨p, 0, none⟩)) := by rw [← hW1]; exact (cells1 (blk_new w _)).1
  have hp1 := blk_keep hbW h
  have Hq1 := Lib.hid (blk_keep hbW hq)
  have HL1 := Lib.hid (hL.keep hbW)
  have Hv1 := Lib.hid (hv.keep hbW)
  rw [hW1]
  clear hW1 h hq hL hv
  obtain ⟨R, hR⟩ : ∃ R, w.heap.size = R := ⟨_, rfl⟩
  have HR := Lib.hid hR
  rw [hR] at r1 hrp hrq hbW hplt hqlt ⊢
  clear hR
  have Hp1 := Lib.hid hp1
  refine (rleads_yes p _ _ _ _ _ _ _ _ _ _ _ _ _ W1 hp1).mono ?_
  rintro e w2 ⟨rfl, hw2'⟩
  clear hp1
  subst hw2'
  obtain ⟨W3, hW3⟩ : ∃ W3, w2.alloc (.cells #[.pointer (some ⟨q, 0, none⟩)] 95) = W3 := ⟨_, rfl⟩
  have hb3 : Below w2.heap.size w2 W3 := by rw [← hW3]; exact box_below w2 _
  obtain ⟨X, hX⟩ : ∃ X, w2.heap.size = X := ⟨_, rfl⟩
  have x3 : W3.cell? ⟨X, 0, none⟩ = some (.pointer (some ⟨q, 0, none⟩)) := by rw [← hW3, ← hX]; exact (cells1 (blk_new w2 _)).1
  have hXR : R < X := by rw [← hX]; exact block_lt r1
  have hxp : ¬ X = p := by omega
  have hxq : ¬ X = q := by omega
  have r3 := cell_keep hb3 r1
  have Hp3 := Lib.hid (blk_keep hb3 Hp1.out)
  have Hq3 := Lib.hid (blk_keep hb3 Hq1.out)
  have HL3 := Lib.hid (HL1.out.keep hb3)
  have Hv3 := Lib.hid (Hv1.out.keep hb3)
  obtain ⟨⟨c0, c1, c2, c3, c4, c5, c6, c7, c8, c9, c10, c11, c12⟩, cf⟩ := cells13 Hp3.out
  obtain ⟨A, vc, rfl⟩ := Hv3.out.slice
  have hX3 : W3.heap.size = X + 1 := by rw [← hW3, ← hX]; simp
  have hAl3 : Alone p q 0 term c rd n qu x2 x7 x9 x11 g W3 := ⟨lv, hpq, Hp3.out, Hq3.out, HL3.out⟩
  go_wp2_with fail
  refine (rcfg_two (S := fun b => ¬ b = p ∧ ¬ b = q) p q term c rd n qu x2 x7 x9 x11 _ g W3 hAl3 hg Hv3.out hmem hch htc).mono ?_
  rintro e w3c ⟨rfl, hb3c⟩
  replace hb3 : Below w2.heap.size w2 w3c := below_then hb3 hb3c
  replace r3 := cell_keep hb3c r3
  replace x3 := cell_keep hb3c x3
  replace Hp3 := Lib.hid (blk_keep hb3c Hp3.out)
  replace Hq3 := Lib.hid (blk_keep hb3c Hq3.out)
  replace HL3 := Lib.hid (HL3.out.keep hb3c)
  replace Hv3 := Lib.hid (Hv3.out.keep hb3c)
  clear c0 c1 c2 c3 c4 c5 c6 c7 c8 c9 c10 c11 c12 cf hAl3 hW3
  have hEX : X < w3c.heap.size := by have := hb3c.size; omega
  clear hX3
  obtain ⟨⟨c0, c1, c2, c3, c4, c5, c6, c7, c8, c9, c10, c11, c12⟩, cf⟩ := cells13 Hp3.out
  go_wp2_with fail
  obtain ⟨W4, hW4⟩ : ∃ W4, w3c.alloc (.cells #[.int .i64 2, .int .i64 term, .slice A 1 vc] 113) = W4 := ⟨_, rfl⟩
  have hb4 : Below w3c.heap.size w3c W4 := by rw [← hW4]; exact box_below w3c _
  have hn4 : W4.heap[w3c.heap.size]? = some (.cells #[.int .i64 2, .int .i64 term, .slice A 1 vc] 113 (0, 0)) := by rw [← hW4]; exact blk_new w3c _
  rw [hW4]
  obtain ⟨E, hE⟩ : ∃ E, w3c.heap.size = E := ⟨_, rfl⟩
  rw [hE] at hn4 hEX ⊢
  clear hW4 c0 c1 c2 c3 c4 c5 c6 c7 c8 c9 c10 c11 c12 cf
  have hok : okSeq g.topTerm [⟨2, term, [3]⟩] = true := by simp [okSeq, rightB, mayB, maskB]; omega
  have hrt : rightB ⟨2, term, [3]⟩ = true := by simp [rightB, mayB, maskB]; omega
  refine (epack_yes ⟨2, term, [3]⟩ (.slice A 1 vc) W4 (Hv3.out.keep hb4) hrt).mono ?_
  rintro e w5 ⟨pv, rfl, -, hb5⟩
  have hb35 := below_then hb4 hb5
  obtain ⟨⟨c0, c1, c2, c3, c4, c5, c6, c7, c8, c9, c10, c11, c12⟩, cf⟩ := cells13 (blk_keep hb35 Hp3.out)
  have cf4 := cf 4
  have r5 := cell_keep hb35 r3
  have x5 := cell_keep hb35 x3
  obtain ⟨n0, n1, n2, -, -, -⟩ := cells3 (blk_keep hb5 hn4)
  have Hv5 := Lib.hid (Hv3.out.keep hb35)
  have Hp5 := Lib.hid (blk_keep hb35 Hp3.out)
  have Hq5 := Lib.hid (blk_keep hb35 Hq3.out)
  have HL5 := Lib.hid (HL3.out.keep hb35)
  clear r3 x3 r1 hn4 hrt
  go_wp2_with fail
  have hlt5 : p < w5.heap.size ∧ q < w5.heap.size := ⟨block_lt c0, (Array.getElem?_eq_some_iff.1 Hq5.out).1⟩
  have HW2 := Lib.hid fun (V : World) (hV : Below w5.heap.size w5 V) (lw : Value) (hl : Ents (fun b => ¬ b = p ∧ ¬ b = q) V lw [⟨2, term, [3]⟩]) => ((with_room lv g lw [⟨2, term, [3]⟩] V (HL5.out.keep hV) hg hl (by simpa using hroom)).mono (fun e w' (h : _ ∧ _) => show ∃ q2, e = .returned (.tuple #[q2, .int .i64 0]) ∧ LogAt (fun b => ¬ b = p ∧ ¬ b = q) w' q2 (g.adds [⟨2, term, [3]⟩]).parts ∧ Below V.heap.size V w' from by
    rcases h.1 with ⟨-, q2, he, hl2⟩ | ⟨hno2, -⟩
    · refine ⟨q2, he, hl2.mono (fun b _ hs => ?_), h.2⟩
      have := hV.size
      rcases hs with hs | hs
      · exact hs
      · exact ⟨by omega, by omega⟩
    · rw [hok] at hno2; cases hno2))
  have ht64 : in64 term := ⟨by omega, by omega⟩
  have Hen : ∀ V : World, V.heap.size = w5.heap.size → Below w5.heap.size w5 V → Ents (fun b => ¬ b = p ∧ ¬ b = q) (V.alloc (.cells #[.int .i64 2, .int .i64 term, .slice A 1 vc] 113)) (.slice (some ⟨w5.heap.size, 0, none⟩) 1 1) [⟨2, term, [3]⟩] := by
    intro V hV hb
    have hn := blk_new V (.cells #[.int .i64 2, .int .i64 term, .slice A 1 vc] 113)
    rw [hV] at hn
    exact ⟨_, RowAt.of_blk (cs := [.int .i64 2, .int .i64 term, .slice A 1 vc]) hn ⟨by omega, by omega⟩ rfl (by decide), ⟨_, [], rfl, ⟨by show (-9223372036854775808 : Int) ≤ 2; omega, by show (2 : Int) ≤ 9223372036854775807; omega⟩, ht64, (Hv5.out.keep hb).keep (box_below V _), rfl⟩⟩
  have HEn := Lib.hid Hen
  clear Hen
  have hXn : ¬ E = p := by omega
  refine wp_region_held_drew (S := (fun w' => w'.cell? ⟨R, 0, none⟩ = some (.pointer (some ⟨p, 0, none⟩)) ∧ w'.cell? ⟨p, 4, none⟩ = some lv ∧ w'.cell? ⟨E, 0, none⟩ = some (.int .i64 2) ∧ w'.cell? ⟨E, 1, none⟩ = some (.int .i64 term) ∧ w'.cell? ⟨E, 2, none⟩ = some (.slice A 1 vc))) (by kernel_rfl) ?_ ?_
  · ((try dsimp only); go_keep)
  intro hHeld
  refine rg_take 0 (v := ?_) rfl (by kernel_rfl) (by kernel_rfl) (by kernel_rfl) (fun _ _ _ h => h) (by rfl) (by assumption) ?_ ?_
  rotate_left 1
  · (intro w hSw; (try dsimp only at hSw); go_simp; with_reducible rfl)
  try simp only [Act.put, List.setIfInBounds_toArray, List.set_cons_zero, List.set_cons_succ]
  refine rg_take 1 (v := ?_) rfl (by kernel_rfl) (by kernel_rfl) (by kernel_rfl) (fun _ _ _ h => h) (by rfl) (by assumption) ?_ ?_
  rotate_left 1
  · (intro w hSw; (try dsimp only at hSw); go_simp; with_reducible rfl)
  try simp only [Act.put, List.setIfInBounds_toArray, List.set_cons_zero, List.set_cons_succ]
  refine rg_take 2 (v := ?_) rfl (by kernel_rfl) (by kernel_rfl) (by kernel_rfl) (fun _ _ _ h => h) (by rfl) (by assumption) ?_ ?_
  rotate_left 1
  · (intro w hSw; (try dsimp only at hSw); go_simp; with_reducible rfl)
  try simp only [Act.put, List.setIfInBounds_toArray, List.set_cons_zero, List.set_cons_succ]
  refine rg_take 3 (v := ?_) rfl (by kernel_rfl) (by kernel_rfl) (by kernel_rfl) (fun _ _ _ h => h) (by rfl) (by assumption) ?_ ?_
  rotate_left 1
  · (intro w hSw; (try dsimp only at hSw); go_simp; with_reducible rfl)
  try simp only [Act.put, List.setIfInBounds_toArray, List.set_cons_zero, List.set_cons_succ]
  refine rg_take 4 (v := ?_) rfl (by kernel_rfl) (by kernel_rfl) (by kernel_rfl) (fun _ _ _ h => h) (by rfl) (by assumption) ?_ ?_
  rotate_left 1
  · (intro w hSw; (try dsimp only at hSw); go_simp; with_reducible rfl)
  try simp only [Act.put, List.setIfInBounds_toArray, List.set_cons_zero, List.set_cons_succ]
  refine wpAnyH_ready (rs := [5]) (by kernel_rfl) (by simp) ?_
  refine rg_step 5 rfl (fun K hK => ?_) (AllReadyH.nil)
  go_simp
  refine hK.out _ _ ?_ ?_
  · ((try dsimp only); go_keep)
  clear hHeld hK K
  intro hHeld
  try simp only [Act.put, List.setIfInBounds_toArray, List.set_cons_zero, List.set_cons_succ]
  refine wpAnyH_ready (rs := [6]) (by kernel_rfl) (by simp) ?_
  refine rg_step 6 rfl (fun K hK => ?_) (AllReadyH.nil)
  go_simp
  (go_at_call 30; refine (HW2.out _ (by exact (box_below w5 _).drew) _ (by exact (HEn.out w5 rfl (Below.refl _ _)).keepM ((Sm.refl _ _).drew))).mono ?_; rintro _ w6 ⟨q2, rfl, hlog, hb6⟩; have z0 := cell_keep hb6 (cell_keep (box_below w5 _) r5); have z1 := cell_keep hb6 (cell_keep (box_below w5 _) c4); have z2 := cell_keep hb6 (cell_keep (box_below w5 _) n0); have z3 := cell_keep hb6 (cell_keep (box_below w5 _) n1); have z4 := cell_keep hb6 (cell_keep (box_below w5 _) n2))
  go_wp2_with fail
  refine hK.out _ _ ?_ ?_
  · ((try dsimp only); go_keep)
  clear hHeld hK K
  intro hHeld
  try simp only [Act.put, List.setIfInBounds_toArray, List.set_cons_zero, List.set_cons_succ]
  refine rg_take 7 (v := ?_) rfl (by kernel_rfl) (by kernel_rfl) (by kernel_rfl) (fun _ _ _ h => h) (by rfl) (by assumption) ?_ ?_
  rotate_left 1
  · (intro w hSw; (try dsimp only at hSw); go_simp; with_reducible rfl)
  try simp only [Act.put, List.setIfInBounds_toArray, List.set_cons_zero, List.set_cons_succ]
  refine rg_take 8 (v := ?_) rfl (by kernel_rfl) (by kernel_rfl) (by kernel_rfl) (fun _ _ _ h => h) (by rfl) (by assumption) ?_ ?_
  rotate_left 1
  · (intro w hSw; (try dsimp only at hSw); go_simp; with_reducible rfl)
  try simp only [Act.put, List.setIfInBounds_toArray, List.set_cons_zero, List.set_cons_succ]
  refine rg_take 9 (v := ?_) rfl (by kernel_rfl) (by kernel_rfl) (by kernel_rfl) (fun _ _ _ h => h) (by rfl) (by assumption) ?_ ?_
  rotate_left 1
  · (intro w hSw; (try dsimp only at hSw); go_simp; with_reducible rfl)
  try simp only [Act.put, List.setIfInBounds_toArray, List.set_cons_zero, List.set_cons_succ]
  refine rg_take 10 (v := ?_) rfl (by kernel_rfl) (by kernel_rfl) (by kernel_rfl) (fun _ _ _ h => h) (by rfl) (by assumption) ?_ ?_
  rotate_left 1
  · (intro w hSw; (try dsimp only at hSw); go_simp; with_reducible rfl)
  try simp only [Act.put, List.setIfInBounds_toArray, List.set_cons_zero, List.set_cons_succ]
  refine rg_take 11 (v := ?_) rfl (by kernel_rfl) (by kernel_rfl) (by kernel_rfl) (fun _ _ _ h => h) (by rfl) (by assumption) ?_ ?_
  rotate_left 1
  · (intro w hSw; (try dsimp only at hSw); go_simp; with_reducible rfl)
  try simp only [Act.put, List.setIfInBounds_toArray, List.set_cons_zero, List.set_cons_succ]
  refine wpAnyH_done (by kernel_rfl) ?_ _
  have hb56 : Below w5.heap.size w5 w6 := below_then (box_below w5 _).drew hb6
  have Hp6 := Lib.hid (blk_keep hb56 Hp5.out)
  have Hq6 := Lib.hid (blk_keep hb56 Hq5.out)
  have x6 := cell_keep hb56 x5
  have bf4 := (cells13 Hp6.out).2 4
  have HL6 := Lib.hid hlog
  obtain ⟨qb, qs, qv, rfl, -⟩ := id hlog
  have hg2 := (hg.adds [⟨2, term, [3]⟩] hok (by simpa using hroom)).1
  have htop2 : (g.adds [⟨2, term, [3]⟩]).top = g.top + 1 := by
    obtain ⟨-, he, -, ha, -⟩ := hg.adds [⟨2, term, [3]⟩] hok (by simpa using hroom)
    unfold Lg.top; rw [he, ha]; simp; omega
  have r7 := fun u => ((Sm.refl (fun b => ¬ b = p) w6).setCell (p := ⟨p, 4, none⟩) (fun h => h rfl) u).cell (p := ⟨R, 0, none⟩) hrp z0
  have x7' := fun u => ((Sm.refl (fun b => ¬ b = p) w6).setCell (p := ⟨p, 4, none⟩) (fun h => h rfl) u).cell (p := ⟨X, 0, none⟩) hxp x6
  obtain ⟨W7, hW7⟩ : ∃ W7, w6.setCell ⟨p, 4, none⟩ (.pointer (some ⟨qb, 0, none⟩)) = W7 := ⟨_, rfl⟩
  have hp7 : W7.heap[p]? = some (.cells #[.int .i64 0, .int .i64 term, x2, .int .i64 0, .pointer (some ⟨qb, 0, none⟩), .int .i64 c, .iface 95 (.pointer (some ⟨q, 0, none⟩)), x7, .int .i64 qu, x9, .slice none 0 0, x11, .slice none 0 0] 92 (0, 0)) := by rw [← hW7]; exact blk_set Hp6.out _
  have hs7 : Sm (fun b => ¬ b = p) w6 W7 := by rw [← hW7]; exact (Sm.refl _ _).setCell (fun h => h rfl) _
  have Hp7 := Lib.hid hp7
  have Hq7 := Lib.hid ((hs7.block q (fun e => hpq e.symm) (Array.getElem?_eq_some_iff.1 Hq6.out).1).trans Hq6.out)
  have HL7 := Lib.hid (HL6.out.keepM (hs7.mono (fun b hb => hb.1)))
  have r8 := r7 (.pointer (some ⟨qb, 0, none⟩))
  have x8 := x7' (.pointer (some ⟨qb, 0, none⟩))
  rw [hW7] at r8 x8
  have HT := Lib.hid fun V (hV : Below W7.heap.size W7 V) => top_run _ _ V (HL7.out.keep hV) hg2
  clear r7 x7' hlog HW2 HEn c0 c1 c2 c3 c4 c5 c6 c7 c8 c9 c10 c11 c12 cf cf4 z0 z1 z2 z3 r5 x5 n0 n1 n2 hp7
  go_wp2_with fail
  refine (HT.out _ (Below.refl _ _)).mono ?_
  rintro e w8 ⟨rfl, hb8⟩
  have r9 := cell_keep hb8 r8
  have x9' := cell_keep hb8 x8
  have Hp8 := Lib.hid (blk_keep hb8 Hp7.out)
  have Hq8 := Lib.hid (blk_keep hb8 Hq7.out)
  have HL8 := Lib.hid (HL7.out.keep hb8)
  have hhas2 : hasB (g.adds [⟨2, term, [3]⟩]).mem 0 = true := by rw [hg.mem_add hok hroom, if_pos rfl, show ((([3] : List UInt8).headD 0).toNat) = 3 from rfl]; decide
  have Hhas2 := Lib.hid hhas2
  clear r8 x8 HT hhas2 hW7
  go_wp2_with fail
  refine (rcount_stay (S := fun b => ¬ b = p ∧ ¬ b = q) p q 0 term c 0 0 0 0 0 _ _ _ _ _ _ _ _ _ _ _ _ _ _ _ _ _ _ _ _ _ _ w8 Hp8.out Hq8.out HL8.out hg2 (fun h : ¬ p = p ∧ ¬ p = q => h.1 rfl) hm hm' Hhas2.out).mono ?_
  rintro e w9 ⟨rfl, hp9, hs9, -⟩
  have r10 := hs9.cell (p := ⟨R, 0, none⟩) hrp r9
  have x10 := hs9.cell (p := ⟨X, 0, none⟩) hxp x9'
  have Hq9 := Lib.hid ((hs9.block q (fun e => hpq e.symm) (Array.getElem?_eq_some_iff.1 Hq8.out).1).trans Hq8.out)
  have HL9 := Lib.hid (HL8.out.keepM (hs9.mono (fun b hb => hb.1)))
  have Hp9 := Lib.hid hp9
  clear hp9 r9 x9'
  go_wp2_with fail
  have hmeq : (g.adds [⟨2, term, [3]⟩]).mem = 3 := by rw [hg.mem_add hok hroom]; rfl
  have ha2 : (g.adds [⟨2, term, [3]⟩]).a = g.a := (hg.adds [⟨2, term, [3]⟩] hok (by simpa using hroom)).2.2.2.1
  have HE := reach_one p R X 0 1 3 (by omega) _ _ _ _ _ _ _ _ _ _ _ _ w9 Hp9.out hm hm' (by omega) (by omega) (Q := fun w' => ∃ v, w'.heap[p]? = some (.cells #[.int .i64 0, .int .i64 term, x2, .int .i64 0, .pointer (some ⟨qb, 0, none⟩), .int .i64 (newCommit (g.adds [⟨2, term, [3]⟩]) term c 0 [0, 0, 0, 0, 0]), .iface 95 (.pointer (some ⟨q, 0, none⟩)), x7, .int .i64 qu, x9, .slice none 0 0, x11, v] 92 (0, 0)) ∧ Sm (fun b => ¬ b = p) w9 w')
    (fun V hV => by
      have := rmembers_any p _ _ _ _ _ _ _ _ _ _ _ _ _ _ V (blk_keep hV Hp9.out) (HL9.out.keep hV) hg2
      rw [hmeq] at this
      exact this)
    (fun V hV => by
      have hp4 := (cells13 (blk_keep hV Hp9.out)).1.2.2.2.2.1
      refine rOfferf_any p q R X 1 V (cell_keep hV r10) (cell_keep hV x10) ((rfeed_first p q 1 0 term _ rd n qu x2 x7 x9 x11 (g.adds [⟨2, term, [3]⟩]) V ⟨_, hpq, blk_keep hV Hp9.out, blk_keep hV Hq9.out, HL9.out.keep hV⟩ hg2 (by omega) (by rw [ha2]; exact hna) hn2).mono fun e w' h => ?_)
      obtain ⟨he, v, lv', hc4, hpv, hsv⟩ := h
      rw [hp4] at hc4
      obtain rfl := Option.some.inj hc4
      exact ⟨he, rfl, (cells13 hpv).1.1, v, hpv, (Sm.of_below' hV _).trans hsv⟩)
    (by decide) (fun i hi h0 h1 => by obtain rfl | rfl | rfl : i = 2 ∨ i = 3 ∨ i = 4 := by omega
                                      all_goals decide)
  clear hmeq
  refine HE.mono ?_
  rintro e w10 ⟨rfl, pv, hp10, hs10⟩
  have r11 := hs10.cell (p := ⟨R, 0, none⟩) hrp r10
  have Hp10 := Lib.hid hp10
  have Hq10 := Lib.hid ((hs10.block q (fun e => hpq e.symm) (Array.getElem?_eq_some_iff.1 Hq9.out).1).trans Hq9.out)
  have HL10 := Lib.hid (HL9.out.keepM (hs10.mono (fun b hb => hb.1)))
  clear HE r10 x10 hp10
  go_wp2_with fail
  refine (rposted_any p _ _ _ _ _ _ _ _ _ _ _ _ _ w10 Hp10.out).mono ?_
  rintro e w11 ⟨rfl, hw11⟩
  have hs11 : Sm (fun b => ¬ b = p) w10 w11 := by rw [hw11]; exact (Sm.refl _ w10).setCell (fun h => h rfl) _
  have hp11 := blk_set (k := 12) Hp10.out (.slice none 0 0)
  rw [← hw11] at hp11
  have Hp11 := Lib.hid hp11
  have hq11 := (hs11.block q (fun e => hpq e.symm) (Array.getElem?_eq_some_iff.1 Hq10.out).1).trans Hq10.out
  have hL11 := HL10.out.keepM (hs11.mono (fun b hb => hb.1))
  have hbw5 : Below R w w5 := ((hbW.trans (hb3.mono (by omega))).trans (hb35.mono (by have := hb3.size; omega)))
  have hall : Sm (fun b => ¬ b = p ∧ ¬ b = q) w w11 :=
    (((((Sm.of_below' (HR.out ▸ hbw5) _).trans (Sm.of_below' hb56 _)).trans (hs7.mono (fun b hb => hb.1))).trans (Sm.of_below' hb8 _)).trans (hs9.mono (fun b hb => hb.1))).trans ((hs10.mono (fun b hb => hb.1)).trans (hs11.mono (fun b hb => hb.1)))
  have Hend := Lib.hid (show Alone p q 0 term (newCommit (g.adds [⟨2, term, [3]⟩]) term c 0 [0, 0, 0, 0, 0]) rd n qu x2 x7 x9 x11 (g.adds [⟨2, term, [3]⟩]) w11 from ⟨_, hpq, Hp11.out, hq11, hL11⟩)
  have Hall := Lib.hid hall
  clear hp11 hq11 hL11 hall hs11 hw11 r11
  go_wp2_with fail
  go_ret3
  exact ⟨⟨_, by first | rfl | (simp only [← htop2]; rfl)⟩, Hend.out, Hall.out⟩
end Go.Proofs.YtahagecdebadfaaGreat

namespace Go.Proofs.YtahagecdebadfaaGreat
open Go.RowKit

set_option maxHeartbeats 400000 in
theorem rmay_any (n : Int) (w : World) : Calls Tryz.prog 36 #[.int .i64 n] w fun e w' => e = .returned (.bool (mayB n)) ∧ w = w' := by
  go_enter Tryz.func36, Tryz.ntmps36
  go_wp2
  all_goals go_ret
  · rename_i h; exact ⟨by simp [mayB, h], rfl⟩
  · rename_i h; exact ⟨by simp [mayB]; omega, rfl⟩
set_option maxHeartbeats 400000 in
theorem rmach_any (n : Int) (w : World) : Calls Tryz.prog 35 #[.int .i64 n] w fun e w' => e = .returned (.bool (decide (0 ≤ n) && decide (n < 5))) ∧ w = w' := by
  go_enter Tryz.func35, Tryz.ntmps35
  go_wp2
  all_goals go_ret
  · rename_i h; exact ⟨by simp [h], rfl⟩
  · rename_i h; exact ⟨by simp; omega, rfl⟩
set_option maxHeartbeats 4000000 in
theorem rnew_any {S : Nat → Prop} (term : Int) (lv : Value) (g : Lg) (w : World) (hL : LogAt S w lv g.parts) (hg : g.Good) (ha : g.a = 0) :
    Calls Tryz.prog 8 #[.int .i64 0, .int .i64 term, .int .i64 (-1), lv, .int .i64 0] w fun e w' => Below w.heap.size w w' ∧
      ((mayB term = true ∧ g.topTerm ≤ term ∧ ∃ p, w.heap.size ≤ p ∧ e = .returned (.tuple #[.pointer (some ⟨p, 0, none⟩), .int .i64 0]) ∧
        w'.heap[p]? = some (.cells #[.int .i64 0, .int .i64 term, .int .i64 (-1), .int .i64 (-1), lv, .int .i64 0, .iface 88 (.agg #[]), .int .i64 0, .int .i64 0, .int .i64 10, .slice none 0 0, .slice none 0 0, .slice none 0 0] 92 (0, 0))) ∨
      (¬ (mayB term = true ∧ g.topTerm ≤ term) ∧ e = .returned (.tuple #[.pointer none, .int .i64 1]))) := by
  obtain ⟨b, sv, vs, rfl, -⟩ := id hL
  have HF := Lib.hid (floor_any _ g w hL)
  have HL := Lib.hid hL
  clear hL
  go_enter Tryz.func8, Tryz.ntmps8
  go_wp2_with fail
  refine HF.out.mono ?_
  rintro e w1 ⟨rfl, hb1⟩
  have HT := Lib.hid (top_run _ g w1 (HL.out.keep hb1) hg)
  go_wp2_with fail
  refine HT.out.mono ?_
  rintro e w2 ⟨rfl, hb2⟩
  have htop := hg.topR.1
  go_wp2_with (first | (go_at_call 35; refine (rmach_any _ _).mono ?_; rintro _ w3 ⟨rfl, rfl⟩) | (go_at_call 36; refine (rmay_any _ _).mono ?_; rintro _ w3 ⟨rfl, rfl⟩))
  · have hbb : Below w.heap.size w w2 := below_then hb1 hb2
    refine (rdraw_none _ 0 _ _ _ _ _ _ _ _ _ (.bool true) _ _ _ (blk_new w2 _) (by omega) (by omega)).mono ?_
    rintro e w4 ⟨rfl, hw4⟩
    have hp4 : w4.heap[w2.heap.size]? = some (.cells #[.int .i64 0, .int .i64 term, .int .i64 (-1), .int .i64 (-1), .pointer (some ⟨b, 0, none⟩), .int .i64 0, .iface 88 (.agg #[]), .int .i64 0, .int .i64 0, .int .i64 10, .slice none 0 0, .slice none 0 0, .slice none 0 0] 92 (0, 0)) := by rw [hw4]; exact blk_set (k := 9) (blk_new w2 _) _
    have hb4 : Below w.heap.size w w4 := by rw [hw4]; exact (below_alloc hbb _).setCell hbb.size _
    have Hp4 := Lib.hid hp4
    clear hp4 hw4
    go_wp2_with fail
    go_ret2
    exact ⟨hb4, .inl ⟨by assumption, by have := hg.topTerm; omega, _, hbb.size, rfl, Hp4.out⟩⟩
  · go_ret2
    exact ⟨below_then hb1 hb2, .inr ⟨by first | (have := hg.topTerm; omega) | (rintro ⟨-, h2⟩; have := hg.topTerm; omega), rfl⟩⟩
  · go_ret2
    exact ⟨below_then hb1 hb2, .inr ⟨by rintro ⟨h1, -⟩; simp_all, rfl⟩⟩
end Go.Proofs.YtahagecdebadfaaGreat

namespace Go.Proofs.YtahagecdebadfaaGreat
open Go.RowKit
attribute [local go_sem ↓] Go.wp_at_zero Go.wp_at_succ

/-- A row of the call's own, behind nothing. -/
theorem run_append_ents (w : World) (B : Nat) (ty : TypeId) (o : Value) (n : Nat) (cs : List Value) (hown : w.ownsRow B 113 3 o n cs) (h1 : ∀ u ∈ cs, u.oneCell' = true) (hn : n ≤ 4096) :
    ∃ v' w', (Builtin.append_ #[22, 22] ty #[.slice none 0 0, o]).run Tryz.prog w = .ok v' w' ∧ (∃ A c, v' = .slice A n c) ∧ Below w.heap.size w w' := by
  obtain ⟨i0, hi, hz0, hz1, hz2⟩ := info_parts infoEntry
  have key : ∀ (a : Addr) (c : Nat), o = .slice (some a) n c → (∀ j u, cs[j]? = some u → w.cell? (a.add j) = some u) → cs.length = n * 3 →
      ∃ v' w', (Builtin.append_ #[22, 22] ty #[.slice none 0 0, o]).run Tryz.prog w = .ok v' w' ∧ (∃ A c, v' = .slice A n c) ∧ Below w.heap.size w w' := by
    intro a c hya hcell hlen
    subst hya
    obtain ⟨v', w', hr, h2, h3, _, h5⟩ := run_append_own_at (P := Tryz.prog) w w.heap.size 22 ty 113 i0 (.agg #[.int .i64 0, .int .i64 0, .slice none 0 0]) 3 40 Tryz.underlying22 hi hz0 hz1 hz2 rfl (by decide) (.slice none 0 0) 0 [] (World.ownsRow_nil _ _ _ _) a n c cs hlen hcell h1 (by unfold maxLen; omega) (by omega) (Nat.le_refl _)
    obtain ⟨A, cc, rfl⟩ := (RowAt.of_own h2).slice
    exact ⟨_, w', hr, ⟨A, cc, by simp⟩, below_of_grown h3⟩
  have hr := RowAt.of_own hown
  rcases hown.2 with ⟨rfl, rfl⟩ | ⟨g, cap, cur, rfl, hbg, hg, hnc, hcm, hcs, htake⟩
  · refine ⟨.slice none 0 0, w, ?_, ⟨_, _, rfl⟩, Below.refl _ _⟩
    simp [Builtin.append_, run_underlying Tryz.underlying22, Go.sizeOf, typeInfo, hi, Builtin.lenOf, Builtin.firstCells]
  · refine key _ cap rfl (fun j u hu => ?_) hown.1
    have hj : j < cs.length := (List.getElem?_eq_some_iff.1 hu).1
    have hp : 0 < n := by have := hown.1; omega
    obtain ⟨b', o', c', he, -, -, -, -, hcell⟩ := hr.form hp
    simp only [Value.slice.injEq, Option.some.injEq, Addr.mk.injEq] at he
    obtain ⟨⟨rfl, rfl, -⟩, -, -⟩ := he
    rw [add_plain]
    exact hcell j u hu
set_option maxRecDepth 100000 in
set_option maxHeartbeats 4000000 in
theorem qwith_any {S : Nat → Prop} (b : Nat) (lv : Value) (l : List Ent) (w : World) (h : RLogAt w b) (hl : Ents S w lv l) (hll : l.length ≤ 140737488355328) :
    Calls Tryz.prog 31 #[.pointer (some ⟨b, 0, none⟩), lv] w fun e w' => (∃ y j, e = .returned (.tuple #[y, .int .i64 j]) ∧ (l.length = 0 → j = 0)) ∧ Below w.heap.size w w' := by
  obtain ⟨A, lc, rfl⟩ := hl.slice
  have HL := Lib.hid hl
  have HR := Lib.hid h
  have hqt := qtop_any b w h
  have HT := Lib.hid hqt
  obtain ⟨a, t, m, h⟩ := h
  obtain ⟨⟨c0, c1, c2, c3⟩, cf⟩ := cells4 h
  have Hb := Lib.hid h
  clear hqt h
  by_cases hfull : 4096 < l.length
  · have hf2 : (4096 : Int) < (l.length : Int) := by omega
    go_enter Tryz.func31, Tryz.ntmps31
    go_wp2_with fail
    go_ret2
    exact ⟨⟨_, _, rfl, fun h => by omega⟩, Below.refl _ _⟩
  · have hf2 : (l.length : Int) ≤ (4096 : Int) := by omega
    clear hl
    go_enter Tryz.func31, Tryz.ntmps31
    go_wp2_with fail
    refine HT.out.mono ?_
    rintro e w1 ⟨⟨ta, tt, rfl⟩, hb1⟩
    go_wp2_with fail
    go_loopw [7, 8] (fun tv i wr => ∃ (k : Nat) (ct : Int), k ≤ l.length ∧ i = .int .i64 k ∧ tv = .int .i64 ct ∧ (∀ j (hj : j < l.length), j < k → rightB l[j] = true) ∧ Below w.heap.size w wr) (fun _ i _ => l.length - (intOf i).toNat)
    case atStart => exact ⟨0, tt, by omega, rfl, rfl, fun j _ h => by omega, hb1⟩
    case round =>
      obtain ⟨k, ct, hk, rfl, rfl, hall, hbr⟩ := hrel
      have Hall := Lib.hid hall
      clear hall
      by_cases hkl : k < l.length
      · obtain ⟨cs, hrl, hec⟩ := HL.out
        obtain ⟨rb, ro, rc, he, hrn, hrc, -, hrb, hrcell⟩ := hrl.form (by omega)
        injection he with he1 _ he2
        subst he1 he2
        obtain ⟨cv, hc0, hc1, hc2, hin1, hin2, hby⟩ := hec.at k hkl
        have y0 : wr.cell? ⟨rb, ro + k * 3, none⟩ = some (.int .i64 l[k].kind) := cell_keep hbr (hrcell _ _ hc0)
        have y1 : wr.cell? ⟨rb, ro + k * 3 + 1, none⟩ = some (.int .i64 l[k].term) := by rw [Nat.add_assoc]; exact cell_keep hbr (hrcell _ _ hc1)
        have y2 : wr.cell? ⟨rb, ro + k * 3 + 2, none⟩ = some cv := by rw [Nat.add_assoc]; exact cell_keep hbr (hrcell _ _ hc2)
        have hRt := qright_any l[k].kind l[k].term cv l[k].cmd wr (hby.keep hbr)
        have hnext : rightB l[k] = true → ∀ j (hj : j < l.length), j < k + 1 → rightB l[j] = true := fun h0 j hj hjk => by
          by_cases e : j = k
          · subst e; exact h0
          · exact Hall.out j hj (by omega)
        have Hnext := Lib.hid hnext
        have hkl2 : (k : Int) < (l.length : Int) := by omega
        have hkl3 : ¬ (l.length : Int) ≤ (k : Int) := by omega
        obtain ⟨cA, cc, rfl⟩ := hby.slice
        clear hc0 hc1 hc2 hrcell hec hrl hnext hby
        cases hrt : rightB l[k]
        · have e : rightB ⟨l[k].kind, l[k].term, l[k].cmd⟩ = false := hrt
          rw [e] at hRt
          have HRt := Lib.hid hRt
          clear hRt e hrt
          go_wp2_with fail
          refine HRt.out.mono ?_
          rintro e w3 ⟨rfl, hb3⟩
          go_wp2_with fail
          go_ret2
          exact ⟨⟨_, _, rfl, fun h => by omega⟩, below_then hbr hb3⟩
        · have e : rightB ⟨l[k].kind, l[k].term, l[k].cmd⟩ = true := hrt
          rw [e] at hRt
          have HRt := Lib.hid hRt
          have HN := Lib.hid (Hnext.out hrt)
          clear hRt e hrt
          go_wp2_with fail
          refine HRt.out.mono ?_
          rintro e w3 ⟨rfl, hb3⟩
          have y1' := cell_keep hb3 y1
          clear y0 y1 y2
          go_wp2_with fail
          all_goals first
            | (go_ret2; exact ⟨⟨_, _, rfl, fun h => by omega⟩, below_then hbr hb3⟩)
            | exact ⟨⟨k + 1, _, hkl, by simp, rfl, HN.out, below_then hbr hb3⟩, by simp [intOf]; omega⟩
            | (go_roundw; (case rel => exact ⟨k + 1, _, hkl, by simp, rfl, HN.out, below_then hbr hb3⟩); (case measure => simp [intOf]; omega))
      · obtain rfl : k = l.length := by omega
        have cb := blk_keep hbr Hb.out
        have Hcb := Lib.hid cb
        obtain ⟨⟨g0, g1, g2, g3⟩, -⟩ := cells4 cb
        clear cb c0 c1 c2 c3 cf
        go_wp2_with fail
        refine wp_region_held_drew (S := (fun w' => w'.cell? ⟨b, 0, none⟩ = some (.int .i64 a) ∧ w'.cell? ⟨b, 1, none⟩ = some (.int .i64 t) ∧ w'.cell? ⟨b, 2, none⟩ = some (.int .i64 m))) (by kernel_rfl) ?_ ?_
        · ((try dsimp only); go_keep)
        intro hHeld
        refine rg_take 0 (v := ?_) rfl (by kernel_rfl) (by kernel_rfl) (by kernel_rfl) (fun _ _ _ h => h) (by rfl) (by assumption) ?_ ?_
        rotate_left 1
        · (intro w hSw; (try dsimp only at hSw); go_simp; with_reducible rfl)
        try simp only [Act.put, List.setIfInBounds_toArray, List.set_cons_zero, List.set_cons_succ]
        refine rg_take 1 (v := ?_) rfl (by kernel_rfl) (by kernel_rfl) (by kernel_rfl) (fun _ _ _ h => h) (by rfl) (by assumption) ?_ ?_
        rotate_left 1
        · (intro w hSw; (try dsimp only at hSw); go_simp; with_reducible rfl)
        try simp only [Act.put, List.setIfInBounds_toArray, List.set_cons_zero, List.set_cons_succ]
        refine rg_take 2 (v := ?_) rfl (by kernel_rfl) (by kernel_rfl) (by kernel_rfl) (fun _ _ _ h => h) (by rfl) (by assumption) ?_ ?_
        rotate_left 1
        · (intro w hSw; (try dsimp only at hSw); go_simp; with_reducible rfl)
        try simp only [Act.put, List.setIfInBounds_toArray, List.set_cons_zero, List.set_cons_succ]
        refine rg_take 3 (v := ?_) rfl (by kernel_rfl) (by kernel_rfl) (by kernel_rfl) (fun _ _ _ h => h) (by rfl) (by assumption) ?_ ?_
        rotate_left 1
        · (intro w hSw; (try dsimp only at hSw); go_simp; with_reducible rfl)
        try simp only [Act.put, List.setIfInBounds_toArray, List.set_cons_zero, List.set_cons_succ]
        refine rg_take 4 (v := ?_) rfl (by kernel_rfl) (by kernel_rfl) (by kernel_rfl) (fun _ _ _ h => h) (by rfl) (by assumption) ?_ ?_
        rotate_left 1
        · (intro w hSw; (try dsimp only at hSw); go_simp; with_reducible rfl)
        try simp only [Act.put, List.setIfInBounds_toArray, List.set_cons_zero, List.set_cons_succ]
        refine rg_take 5 (v := ?_) rfl (by kernel_rfl) (by kernel_rfl) (by kernel_rfl) (fun _ _ _ h => h) (by rfl) (by assumption) ?_ ?_
        rotate_left 1
        · (intro w hSw; (try dsimp only at hSw); go_simp; with_reducible rfl)
        try simp only [Act.put, List.setIfInBounds_toArray, List.set_cons_zero, List.set_cons_succ]
        refine rg_take 6 (v := ?_) rfl (by kernel_rfl) (by kernel_rfl) (by kernel_rfl) (fun _ _ _ h => h) (by rfl) (by assumption) ?_ ?_
        rotate_left 1
        · (intro w hSw; (try dsimp only at hSw); go_simp; with_reducible rfl)
        try simp only [Act.put, List.setIfInBounds_toArray, List.set_cons_zero, List.set_cons_succ]
        refine rg_take 7 (v := ?_) rfl (by kernel_rfl) (by kernel_rfl) (by kernel_rfl) (fun _ _ _ h => h) (by rfl) (by assumption) ?_ ?_
        rotate_left 1
        · (intro w hSw; (try dsimp only at hSw); go_simp; with_reducible rfl)
        try simp only [Act.put, List.setIfInBounds_toArray, List.set_cons_zero, List.set_cons_succ]
        refine rg_take 8 (v := ?_) rfl (by kernel_rfl) (by kernel_rfl) (by kernel_rfl) (fun _ _ _ h => h) (by rfl) (by assumption) ?_ ?_
        rotate_left 1
        · (intro w hSw; (try dsimp only at hSw); go_simp; with_reducible rfl)
        try simp only [Act.put, List.setIfInBounds_toArray, List.set_cons_zero, List.set_cons_succ]
        refine rg_take 9 (v := ?_) rfl (by kernel_rfl) (by kernel_rfl) (by kernel_rfl) (fun _ _ _ h => h) (by rfl) (by assumption) ?_ ?_
        rotate_left 1
        · (intro w hSw; (try dsimp only at hSw); go_simp; with_reducible rfl)
        try simp only [Act.put, List.setIfInBounds_toArray, List.set_cons_zero, List.set_cons_succ]
        refine rg_take 10 (v := ?_) rfl (by kernel_rfl) (by kernel_rfl) (by kernel_rfl) (fun _ _ _ h => h) (by rfl) (by assumption) ?_ ?_
        rotate_left 1
        · (intro w hSw; (try dsimp only at hSw); go_simp; with_reducible rfl)
        try simp only [Act.put, List.setIfInBounds_toArray, List.set_cons_zero, List.set_cons_succ]
        refine rg_take 11 (v := ?_) rfl (by kernel_rfl) (by kernel_rfl) (by kernel_rfl) (fun _ _ _ h => h) (by rfl) (by assumption) ?_ ?_
        rotate_left 1
        · (intro w hSw; (try dsimp only at hSw); go_simp; with_reducible rfl)
        try simp only [Act.put, List.setIfInBounds_toArray, List.set_cons_zero, List.set_cons_succ]
        refine rg_take 12 (v := ?_) rfl (by kernel_rfl) (by kernel_rfl) (by kernel_rfl) (fun _ _ _ h => h) (by rfl) (by assumption) ?_ ?_
        rotate_left 1
        · (intro w hSw; (try dsimp only at hSw); go_simp; with_reducible rfl)
        try simp only [Act.put, List.setIfInBounds_toArray, List.set_cons_zero, List.set_cons_succ]
        refine wpAnyH_ready (rs := [13]) (by kernel_rfl) (by simp) ?_
        refine rg_step 13 rfl (fun K hK => ?_) (AllReadyH.nil)
        go_simp
        refine hK.out _ _ ?_ ?_
        · ((try dsimp only); go_keep)
        clear hHeld hK K
        intro hHeld
        try simp only [Act.put, List.setIfInBounds_toArray, List.set_cons_zero, List.set_cons_succ]
        refine rg_take 14 (v := ?_) rfl (by kernel_rfl) (by kernel_rfl) (by kernel_rfl) (fun _ _ _ h => h) (by rfl) (by assumption) ?_ ?_
        rotate_left 1
        · (intro w hSw; (try dsimp only at hSw); go_simp; with_reducible rfl)
        try simp only [Act.put, List.setIfInBounds_toArray, List.set_cons_zero, List.set_cons_succ]
        refine wpAnyH_done (by kernel_rfl) ?_ _
        obtain ⟨W3, hW3⟩ : ∃ W3, (wr.alloc (.cells #[.int .i64 a, .int .i64 t, .int .i64 m, .slice none 0 0] 94)).drew = W3 := ⟨_, rfl⟩
        have hb3 : Below wr.heap.size wr W3 := by rw [← hW3]; exact (box_below wr _).drew
        obtain ⟨C, hC⟩ : ∃ C, wr.heap.size = C := ⟨_, rfl⟩
        have hc3 : W3.heap[C]? = some (.cells #[.int .i64 a, .int .i64 t, .int .i64 m, .slice none 0 0] 94 (0, 0)) := by rw [← hW3, ← hC]; exact blk_new wr _
        have hCb : ¬ C = b := by have := (Array.getElem?_eq_some_iff.1 Hcb.out).1; omega
        have z3 := cell_keep hb3 g3
        obtain ⟨⟨-, -, -, k3⟩, kf⟩ := cells4 hc3
        have kf3 := kf 3
        rw [hW3]
        rw [hC]
        clear hW3 g0 g1 g2 g3 kf
        obtain ⟨i0, hi, hz0, hz1, hz2⟩ := info_parts infoEntry
        have hnil := Lib.hid (show ∀ W : World, (Builtin.append_ #[22, 22] 22 #[.slice none 0 0, .slice none 0 0]).run Tryz.prog W = .ok (.slice none 0 0) W from fun W => by
          simp [Builtin.append_, run_underlying Tryz.underlying22, Go.sizeOf, typeInfo, hi, Builtin.lenOf, Builtin.firstCells])
        clear hi hz0 hz1 hz2
        go_wp2_with fail
        refine wp_region_held_drew (S := (fun w' => w'.cell? ⟨b, 3, none⟩ = some (.slice none 0 0))) (by kernel_rfl) ?_ ?_
        · ((try dsimp only); go_keep)
        intro hHeld
        refine rg_take 0 (v := ?_) rfl (by kernel_rfl) (by kernel_rfl) (by kernel_rfl) (fun _ _ _ h => h) (by rfl) (by assumption) ?_ ?_
        rotate_left 1
        · (intro w hSw; (try dsimp only at hSw); go_simp; with_reducible rfl)
        try simp only [Act.put, List.setIfInBounds_toArray, List.set_cons_zero, List.set_cons_succ]
        refine rg_take 1 (v := ?_) rfl (by kernel_rfl) (by kernel_rfl) (by kernel_rfl) (fun _ _ _ h => h) (by rfl) (by assumption) ?_ ?_
        rotate_left 1
        · (intro w hSw; (try dsimp only at hSw); go_simp; with_reducible rfl)
        try simp only [Act.put, List.setIfInBounds_toArray, List.set_cons_zero, List.set_cons_succ]
        refine rg_take 2 (v := ?_) rfl (by kernel_rfl) (by kernel_rfl) (by kernel_rfl) (fun _ _ _ h => h) (by rfl) (by assumption) ?_ ?_
        rotate_left 1
        · (intro w hSw; (try dsimp only at hSw); go_simp; with_reducible rfl)
        try simp only [Act.put, List.setIfInBounds_toArray, List.set_cons_zero, List.set_cons_succ]
        refine rg_take 3 (v := ?_) rfl (by kernel_rfl) (by kernel_rfl) (by kernel_rfl) (fun _ _ _ h => h) (by rfl) (by assumption) ?_ ?_
        rotate_left 1
        · (intro w hSw; (try dsimp only at hSw); go_simp; with_reducible rfl)
        try simp only [Act.put, List.setIfInBounds_toArray, List.set_cons_zero, List.set_cons_succ]
        refine rg_take 5 (v := ?_) rfl (by kernel_rfl) (by kernel_rfl) (by kernel_rfl) (fun _ _ _ h => h) (by rfl) (by assumption) ?_ ?_
        rotate_left 1
        · (intro w hSw; (try dsimp only at hSw); go_simp; with_reducible rfl)
        try simp only [Act.put, List.setIfInBounds_toArray, List.set_cons_zero, List.set_cons_succ]
        refine rg_take 6 (v := ?_) rfl (by kernel_rfl) (by kernel_rfl) (by kernel_rfl) (fun _ _ _ h => h) (by rfl) (by assumption) ?_ ?_
        rotate_left 1
        · (intro w hSw; (try dsimp only at hSw); go_simp; with_reducible rfl)
        try simp only [Act.put, List.setIfInBounds_toArray, List.set_cons_zero, List.set_cons_succ]
        refine rg_take 7 (v := ?_) rfl (by kernel_rfl) (by kernel_rfl) (by kernel_rfl) (fun _ _ _ h => h) (by rfl) (by assumption) ?_ ?_
        rotate_left 1
        · (intro w hSw; (try dsimp only at hSw); go_simp; with_reducible rfl)
        try simp only [Act.put, List.setIfInBounds_toArray, List.set_cons_zero, List.set_cons_succ]
        refine rg_take 8 (v := ?_) rfl (by kernel_rfl) (by kernel_rfl) (by kernel_rfl) (fun _ _ _ h => h) (by rfl) (by assumption) ?_ ?_
        rotate_left 1
        · (intro w hSw; (try dsimp only at hSw); go_simp; with_reducible rfl)
        try simp only [Act.put, List.setIfInBounds_toArray, List.set_cons_zero, List.set_cons_succ]
        refine wpAnyH_ready (rs := [4]) (by kernel_rfl) (by simp) ?_
        refine rg_step 4 rfl (fun K hK => ?_) (AllReadyH.nil)
        go_simp
        refine hK.out _ _ ?_ ?_
        · ((try dsimp only); go_keep)
        clear hHeld hK K
        intro hHeld
        try simp only [Act.put, List.setIfInBounds_toArray, List.set_cons_zero, List.set_cons_succ]
        refine wpAnyH_ready (rs := [9]) (by kernel_rfl) (by simp) ?_
        refine rg_step 9 rfl (fun K hK => ?_) (AllReadyH.nil)
        (refine step_append_run (by rfl) _ _ _ (by rfl) (.slice none 0 0) (.slice none 0 0) (by rfl) (by rfl) _ _ (hnil.out _) ?_)
        refine hK.out _ _ ?_ ?_
        · ((try dsimp only); go_keep)
        clear hHeld hK K
        intro hHeld
        try simp only [Act.put, List.setIfInBounds_toArray, List.set_cons_zero, List.set_cons_succ]
        refine rg_take 10 (v := ?_) rfl (by kernel_rfl) (by kernel_rfl) (by kernel_rfl) (fun _ _ _ h => h) (by rfl) (by assumption) ?_ ?_
        rotate_left 1
        · (intro w hSw; (try dsimp only at hSw); go_simp; with_reducible rfl)
        try simp only [Act.put, List.setIfInBounds_toArray, List.set_cons_zero, List.set_cons_succ]
        refine rg_take 11 (v := ?_) rfl (by kernel_rfl) (by kernel_rfl) (by kernel_rfl) (fun _ _ _ h => h) (by rfl) (by assumption) ?_ ?_
        rotate_left 1
        · (intro w hSw; (try dsimp only at hSw); go_simp; with_reducible rfl)
        try simp only [Act.put, List.setIfInBounds_toArray, List.set_cons_zero, List.set_cons_succ]
        refine wpAnyH_ready (rs := [12]) (by kernel_rfl) (by simp) ?_
        refine rg_step 12 rfl (fun K hK => ?_) (AllReadyH.nil)
        go_simp
        refine hK.out _ _ ?_ ?_
        · ((try dsimp only); go_keep)
        clear hHeld hK K
        intro hHeld
        try simp only [Act.put, List.setIfInBounds_toArray, List.set_cons_zero, List.set_cons_succ]
        refine wpAnyH_done (by kernel_rfl) ?_ _
        obtain ⟨W4, hW4⟩ : ∃ W4, (W3.setCell ⟨C, 3, none⟩ (.slice none 0 0)).drew = W4 := ⟨_, rfl⟩
        have hb4 : Below w.heap.size w W4 := by
          rw [← hW4]
          exact ((below_then hbr hb3).setCell (by show w.heap.size ≤ C; have := hbr.size; omega) _).drew
        have hc4 : W4.heap[C]? = some (.cells #[.int .i64 a, .int .i64 t, .int .i64 m, .slice none 0 0] 94 (0, 0)) := by rw [← hW4]; exact blk_set hc3 _
        rw [hW4]
        clear hW4 z3 k3 kf3 hnil
        obtain ⟨⟨-, -, -, k3⟩, kf⟩ := cells4 hc4
        have kf3 := kf 3
        have hcm : ∀ e ∈ l, e.cmd.length ≤ 140737488355328 := fun e he => by
          obtain ⟨j, hj, rfl⟩ := List.getElem_of_mem he
          have := (rightB_facts (Hall.out j hj hj)).2.2.2.2
          omega
        have HLe := Lib.hid fun V (hV : Below w.heap.size w V) => qlent_any (S := S) (.slice A l.length lc) l V (HL.out.keep hV) (by omega) hcm
        have Hf := Lib.hid kf
        clear kf hcm
        go_wp2_with fail
        refine wp_region_held_drew (S := (fun w' => True)) (by kernel_rfl) ?_ ?_
        · ((try dsimp only))
        intro hHeld
        refine rg_take 0 (v := ?_) rfl (by kernel_rfl) (by kernel_rfl) (by kernel_rfl) (fun _ _ _ h => h) (by rfl) (by assumption) ?_ ?_
        rotate_left 1
        · (intro w hSw; (try dsimp only at hSw); go_simp; with_reducible rfl)
        try simp only [Act.put, List.setIfInBounds_toArray, List.set_cons_zero, List.set_cons_succ]
        refine rg_take 1 (v := ?_) rfl (by kernel_rfl) (by kernel_rfl) (by kernel_rfl) (fun _ _ _ h => h) (by rfl) (by assumption) ?_ ?_
        rotate_left 1
        · (intro w hSw; (try dsimp only at hSw); go_simp; with_reducible rfl)
        try simp only [Act.put, List.setIfInBounds_toArray, List.set_cons_zero, List.set_cons_succ]
        refine rg_take 2 (v := ?_) rfl (by kernel_rfl) (by kernel_rfl) (by kernel_rfl) (fun _ _ _ h => h) (by rfl) (by assumption) ?_ ?_
        rotate_left 1
        · (intro w hSw; (try dsimp only at hSw); go_simp; with_reducible rfl)
        try simp only [Act.put, List.setIfInBounds_toArray, List.set_cons_zero, List.set_cons_succ]
        refine rg_take 3 (v := ?_) rfl (by kernel_rfl) (by kernel_rfl) (by kernel_rfl) (fun _ _ _ h => h) (by rfl) (by assumption) ?_ ?_
        rotate_left 1
        · (intro w hSw; (try dsimp only at hSw); go_simp; with_reducible rfl)
        try simp only [Act.put, List.setIfInBounds_toArray, List.set_cons_zero, List.set_cons_succ]
        refine rg_take 5 (v := ?_) rfl (by kernel_rfl) (by kernel_rfl) (by kernel_rfl) (fun _ _ _ h => h) (by rfl) (by assumption) ?_ ?_
        rotate_left 1
        · (intro w hSw; (try dsimp only at hSw); go_simp; with_reducible rfl)
        try simp only [Act.put, List.setIfInBounds_toArray, List.set_cons_zero, List.set_cons_succ]
        refine wpAnyH_ready (rs := [4, 6]) (by kernel_rfl) (by simp) ?_
        refine rg_step 4 rfl (fun K hK => ?_) (rg_step 6 rfl (fun K hK => ?_) (AllReadyH.nil))
        focus
          go_simp
          refine hK.out _ _ ?_ ?_
          · ((try dsimp only))
          clear hHeld hK K
          intro hHeld
          try simp only [Act.put, List.setIfInBounds_toArray, List.set_cons_zero, List.set_cons_succ]
          refine wpAnyH_ready (rs := [6]) (by kernel_rfl) (by simp) ?_
          refine rg_step 6 rfl (fun K hK => ?_) (AllReadyH.nil)
          go_simp
          first | (go_at_call 90; refine (HLe.out _ (by exact hb4.drew)).mono ?_; rintro _ w7 ⟨o, cs, rfl, hown, hone, hb7'⟩; obtain ⟨vv, wv, hrun, ⟨vA, vC, rfl⟩, hbv⟩ := run_append_ents w7 _ 22 _ _ _ hown hone (by omega); have hb7 : Below W4.heap.size W4 w7 := below_of_drew hb7'; have m3 := cell_keep hb7 k3; have hb8 := below_then hb7 hbv; have n3 := cell_keep hb8 k3; have nf3 := (hb8.frozen (p := ⟨C, 3, none⟩) (block_lt k3)).trans kf3) | (refine step_append_run (by rfl) _ _ _ (by rfl) (.slice none 0 0) o (by rfl) (by rfl) _ _ hrun ?_)
          go_wp2_with fail
          refine hK.out _ _ ?_ ?_
          · ((try dsimp only))
          clear hHeld hK K
          intro hHeld
          try simp only [Act.put, List.setIfInBounds_toArray, List.set_cons_zero, List.set_cons_succ]
          refine wpAnyH_ready (rs := [7]) (by kernel_rfl) (by simp) ?_
          refine rg_step 7 rfl (fun K hK => ?_) (AllReadyH.nil)
          first | (go_at_call 90; refine (HLe.out _ (by exact hb4.drew)).mono ?_; rintro _ w7 ⟨o, cs, rfl, hown, hone, hb7'⟩; obtain ⟨vv, wv, hrun, ⟨vA, vC, rfl⟩, hbv⟩ := run_append_ents w7 _ 22 _ _ _ hown hone (by omega); have hb7 : Below W4.heap.size W4 w7 := below_of_drew hb7'; have m3 := cell_keep hb7 k3; have hb8 := below_then hb7 hbv; have n3 := cell_keep hb8 k3; have nf3 := (hb8.frozen (p := ⟨C, 3, none⟩) (block_lt k3)).trans kf3) | (refine step_append_run (by rfl) _ _ _ (by rfl) (.slice none 0 0) o (by rfl) (by rfl) _ _ hrun ?_)
          refine hK.out _ _ ?_ ?_
          · ((try dsimp only))
          clear hHeld hK K
          intro hHeld
          try simp only [Act.put, List.setIfInBounds_toArray, List.set_cons_zero, List.set_cons_succ]
          refine rg_take 8 (v := ?_) rfl (by kernel_rfl) (by kernel_rfl) (by kernel_rfl) (fun _ _ _ h => h) (by rfl) (by assumption) ?_ ?_
          rotate_left 1
          · (intro w hSw; (try dsimp only at hSw); go_simp; with_reducible rfl)
          try simp only [Act.put, List.setIfInBounds_toArray, List.set_cons_zero, List.set_cons_succ]
          refine rg_take 9 (v := ?_) rfl (by kernel_rfl) (by kernel_rfl) (by kernel_rfl) (fun _ _ _ h => h) (by rfl) (by assumption) ?_ ?_
          rotate_left 1
          · (intro w hSw; (try dsimp only at hSw); go_simp; with_reducible rfl)
          try simp only [Act.put, List.setIfInBounds_toArray, List.set_cons_zero, List.set_cons_succ]
          refine wpAnyH_ready (rs := [10]) (by kernel_rfl) (by simp) ?_
          refine rg_step 10 rfl (fun K hK => ?_) (AllReadyH.nil)
          go_simp
          refine hK.out _ _ ?_ ?_
          · ((try dsimp only))
          clear hHeld hK K
          intro hHeld
          try simp only [Act.put, List.setIfInBounds_toArray, List.set_cons_zero, List.set_cons_succ]
          refine wpAnyH_done (by kernel_rfl) ?_ _
        rotate_left 1
        focus
          go_simp
          first | (go_at_call 90; refine (HLe.out _ (by exact hb4.drew)).mono ?_; rintro _ w7 ⟨o, cs, rfl, hown, hone, hb7'⟩; obtain ⟨vv, wv, hrun, ⟨vA, vC, rfl⟩, hbv⟩ := run_append_ents w7 _ 22 _ _ _ hown hone (by omega); have hb7 : Below W4.heap.size W4 w7 := below_of_drew hb7'; have m3 := cell_keep hb7 k3; have hb8 := below_then hb7 hbv; have n3 := cell_keep hb8 k3; have nf3 := (hb8.frozen (p := ⟨C, 3, none⟩) (block_lt k3)).trans kf3) | (refine step_append_run (by rfl) _ _ _ (by rfl) (.slice none 0 0) o (by rfl) (by rfl) _ _ hrun ?_)
          go_wp2_with fail
          refine hK.out _ _ ?_ ?_
          · ((try dsimp only))
          clear hHeld hK K
          intro hHeld
          try simp only [Act.put, List.setIfInBounds_toArray, List.set_cons_zero, List.set_cons_succ]
          refine wpAnyH_ready (rs := [4]) (by kernel_rfl) (by simp) ?_
          refine rg_step 4 rfl (fun K hK => ?_) (AllReadyH.nil)
          go_simp
          refine hK.out _ _ ?_ ?_
          · ((try dsimp only))
          clear hHeld hK K
          intro hHeld
          try simp only [Act.put, List.setIfInBounds_toArray, List.set_cons_zero, List.set_cons_succ]
          refine wpAnyH_ready (rs := [7]) (by kernel_rfl) (by simp) ?_
          refine rg_step 7 rfl (fun K hK => ?_) (AllReadyH.nil)
          first | (go_at_call 90; refine (HLe.out _ (by exact hb4.drew)).mono ?_; rintro _ w7 ⟨o, cs, rfl, hown, hone, hb7'⟩; obtain ⟨vv, wv, hrun, ⟨vA, vC, rfl⟩, hbv⟩ := run_append_ents w7 _ 22 _ _ _ hown hone (by omega); have hb7 : Below W4.heap.size W4 w7 := below_of_drew hb7'; have m3 := cell_keep hb7 k3; have hb8 := below_then hb7 hbv; have n3 := cell_keep hb8 k3; have nf3 := (hb8.frozen (p := ⟨C, 3, none⟩) (block_lt k3)).trans kf3) | (refine step_append_run (by rfl) _ _ _ (by rfl) (.slice none 0 0) o (by rfl) (by rfl) _ _ hrun ?_)
          refine hK.out _ _ ?_ ?_
          · ((try dsimp only))
          clear hHeld hK K
          intro hHeld
          try simp only [Act.put, List.setIfInBounds_toArray, List.set_cons_zero, List.set_cons_succ]
          refine rg_take 8 (v := ?_) rfl (by kernel_rfl) (by kernel_rfl) (by kernel_rfl) (fun _ _ _ h => h) (by rfl) (by assumption) ?_ ?_
          rotate_left 1
          · (intro w hSw; (try dsimp only at hSw); go_simp; with_reducible rfl)
          try simp only [Act.put, List.setIfInBounds_toArray, List.set_cons_zero, List.set_cons_succ]
          refine rg_take 9 (v := ?_) rfl (by kernel_rfl) (by kernel_rfl) (by kernel_rfl) (fun _ _ _ h => h) (by rfl) (by assumption) ?_ ?_
          rotate_left 1
          · (intro w hSw; (try dsimp only at hSw); go_simp; with_reducible rfl)
          try simp only [Act.put, List.setIfInBounds_toArray, List.set_cons_zero, List.set_cons_succ]
          refine wpAnyH_ready (rs := [10]) (by kernel_rfl) (by simp) ?_
          refine rg_step 10 rfl (fun K hK => ?_) (AllReadyH.nil)
          go_simp
          refine hK.out _ _ ?_ ?_
          · ((try dsimp only))
          clear hHeld hK K
          intro hHeld
          try simp only [Act.put, List.setIfInBounds_toArray, List.set_cons_zero, List.set_cons_succ]
          refine wpAnyH_done (by kernel_rfl) ?_ _
        rotate_left 1
        all_goals
          go_wp2_with fail
          go_ret2
          exact ⟨⟨_, _, rfl, fun _ => rfl⟩, (below_next hb4 hb8 hb4.size).setCell (by show w.heap.size ≤ C; have := hbr.size; omega) _⟩
theorem qnew_one (w : World) :
    Calls Tryz.prog 29 #[.int .i64 0, .int .i64 0, .int .i64 1] w fun e w' => Below w.heap.size w w' ∧ ∃ b, e = .returned (.tuple #[.pointer (some ⟨b, 0, none⟩), .int .i64 0]) ∧ RLogAt w' b := by
  have hc := fun w => qcan_any 0 w
  have hk := fun w => qmask_any 1 w
  rw [show mayB 0 = true from by decide] at hc
  rw [show maskB 1 = true from by decide] at hk
  go_enter Tryz.func29, Tryz.ntmps29
  go_wp2_with (first | (go_at_call 39; refine (hc _).mono ?_; rintro e w' ⟨rfl, rfl⟩) | (go_at_call 83; refine (hk _).mono ?_; rintro e w' ⟨rfl, rfl⟩))
  go_ret2
  exact ⟨box_below _ _, _, rfl, _, _, _, blk_new _ _⟩

set_option maxHeartbeats 2000000 in
/-- caissonlaw10.log of one machine alone, from the beginning. -/
theorem l10log_any {S : Nat → Prop} (lv : Value) (l : List Ent) (w : World) (hl : Ents S w lv l) (hll : l.length ≤ 140737488355328) :
    Calls Tryz.prog 6 #[.int .i64 0, .int .i64 0, .int .i64 1, lv] w fun e w' => Below w.heap.size w w' ∧
      ((okSeq 0 l = true ∧ l.length ≤ 4096 ∧ ∃ p y, e = .returned (.tuple #[p, y]) ∧ LogAt (fun b => w.heap.size ≤ b ∨ S b) w' p (Lg.of 0 0 1 l).parts) ∨
       (¬ l.length = 0 ∧ e = .returned (.tuple #[.pointer none, .pointer none]))) := by
  obtain ⟨A, lc, rfl⟩ := hl.slice
  have Hl := Lib.hid hl
  have hn : newB 0 0 1 = true := by decide
  have Hn := Lib.hid fun W => new_yes 0 0 1 W hn
  have hbase := (newB_floor hn).base
  have Hb := Lib.hid hbase
  clear hl hbase
  go_enter Tryz.func6, Tryz.ntmps6
  go_wp2_with fail
  refine (Hn.out _).mono ?_
  rintro _ w1 ⟨p, rfl, hp, hb1⟩
  obtain ⟨pb, ps, pv, rfl, hpr⟩ := id hp
  have Hp := Lib.hid hp
  clear hp hpr
  go_wp2_with fail
  refine (qnew_one _).mono ?_
  rintro _ w2 ⟨hb2, qb, rfl, hq⟩
  have Hq := Lib.hid hq
  have hb12 := below_then hb1 hb2
  clear hq
  have he : (Lg.mk 0 0 1 []).ents.length = 0 := rfl
  have hE := (Hl.out.keep hb12).mono (T := fun b => w.heap.size ≤ b ∨ S b) fun b _ h => .inr h
  have hP := (Hp.out.keep hb2).mono (T := fun b => w.heap.size ≤ b ∨ S b) fun b _ h => .inl h
  go_wp2_with fail
  have HQ := Lib.hid fun W (hW : Below w2.heap.size w2 W) => qwith_any (S := S) qb (.slice A l.length lc) l W (by obtain ⟨a, t, m, h⟩ := Hq.out; exact ⟨a, t, m, blk_keep hW h⟩) (Hl.out.keep (below_then hb12 hW)) hll
  have hnz : okSeq 0 l = false → ¬ l.length = 0 := fun h h0 => by rw [List.eq_nil_of_length_eq_zero h0] at h; cases h
  by_cases hroom : l.length ≤ 4096
  · refine (with_room (.pointer (some ⟨pb, 0, none⟩)) (Lg.mk 0 0 1 []) (.slice A l.length lc) l w2 hP Hb.out hE (by rw [he]; omega)).mono ?_
    rintro _ w3 ⟨hw | ⟨hw, rfl⟩, hb3⟩
    · obtain ⟨hok, q, rfl, hqq⟩ := hw
      obtain ⟨qb2, qs, qv, rfl, hqr⟩ := id hqq
      have HLq := Lib.hid hqq
      have Hok := Lib.hid hok
      clear hqq hqr hok hE hP
      go_wp2_with fail
      refine (HQ.out _ hb3).mono ?_
      rintro e w4 ⟨⟨y, j, rfl, hj⟩, hb4⟩
      have hb24 := below_then hb3 hb4
      have hLend : LogAt (fun b => w.heap.size ≤ b ∨ S b) w4 (.pointer (some ⟨qb2, 0, none⟩)) (Lg.of 0 0 1 l).parts := (HLq.out.keep hb4).mono fun b _ h => by
        rcases h with h | h
        · exact h
        · have := hb12.size; exact .inl (by omega)
      have HLe := Lib.hid hLend
      clear hLend
      by_cases hj0 : j = 0
      · subst hj0
        go_wp2_with fail
        go_ret2
        exact ⟨below_then hb12 hb24, .inl ⟨Hok.out, hroom, _, _, rfl, HLe.out⟩⟩
      · have hj1 : (j == 0) = false := by simpa using hj0
        have hj2 : (j != 0) = true := by simpa using hj0
        go_wp2_with fail
        go_ret2
        exact ⟨below_then hb12 hb24, .inr ⟨fun h => hj0 (hj h), rfl⟩⟩
    · have Hok := Lib.hid hw
      clear hw hE hP
      go_wp2_with fail
      refine (HQ.out _ hb3).mono ?_
      rintro e w4 ⟨⟨y, j, rfl, hj⟩, hb4⟩
      go_wp2_with fail
      go_ret2
      exact ⟨below_then hb12 (below_then hb3 hb4), .inr ⟨hnz Hok.out, rfl⟩⟩
  · refine (with_full (.pointer (some ⟨pb, 0, none⟩)) (Lg.mk 0 0 1 []) A l.length lc w2 hP Hb.out (by rw [he]; omega) (by omega)).mono ?_
    rintro _ w3 ⟨rfl, hb3⟩
    clear hE hP
    go_wp2_with fail
    refine (HQ.out _ hb3).mono ?_
    rintro e w4 ⟨⟨y, j, rfl, hj⟩, hb4⟩
    go_wp2_with fail
    go_ret2
    exact ⟨below_then hb12 (below_then hb3 hb4), .inr ⟨by omega, rfl⟩⟩
end Go.Proofs.YtahagecdebadfaaGreat

namespace Go.Proofs.YtahagecdebadfaaGreat
open Go.RowKit

/-- A follower that has ticked k times. -/
def Fol (p : Nat) (term : Int) (g : Lg) (k : Int) (w : World) : Prop := ∃ lv,
  w.heap[p]? = some (.cells #[.int .i64 0, .int .i64 term, .int .i64 (-1), .int .i64 (-1), lv, .int .i64 0, .iface 88 (.agg #[]), .int .i64 k, .int .i64 k, .int .i64 10, .slice none 0 0, .slice none 0 0, .slice none 0 0] 92 (0, 0)) ∧
  LogAt (fun b => ¬ b = p) w lv g.parts
/-- k ticks after the beginning. -/
def Ph (p B : Nat) (term : Int) (g : Lg) (k : Nat) (w : World) : Prop :=
  (k ≤ 9 ∧ B ≤ w.heap.size ∧ Fol p term g k w) ∨ (k = 10 ∧ ∃ q, B ≤ q ∧ Alone p q 0 (term + 1) (g.top + 1) 1 (g.top + 1) 10 (.int .i64 0) (.int .i64 0) (.int .i64 10) (.slice none 0 0) (g.adds [noop (term + 1)]) w)
structure Ready (g : Lg) (term : Int) : Prop where
  good : g.Good
  one : g.mem = 1
  t0 : 0 ≤ term
  t1 : term < 1099511627776
  tt : g.topTerm ≤ term
  room : g.ents.length + 1 ≤ 4096
theorem has_one : ∀ i : Nat, i < 5 → (i : Int) ≠ 0 → hasB 1 i = false := by
  intro i hi h0
  obtain rfl | rfl | rfl | rfl : i = 1 ∨ i = 2 ∨ i = 3 ∨ i = 4 := by omega
  all_goals decide
theorem Ready.noop {g : Lg} {term : Int} (h : Ready g term) : okSeq g.topTerm [noop (term + 1)] = true := by
  have := h.t0; have := h.t1; have := h.tt
  show okSeq g.topTerm [⟨0, term + 1, []⟩] = true
  simp [okSeq, rightB, mayB]; omega
theorem Ready.next {g : Lg} {term : Int} (h : Ready g term) : (g.adds [Go.Proofs.YtahagecdebadfaaGreat.noop (term + 1)]).Good ∧ (g.adds [Go.Proofs.YtahagecdebadfaaGreat.noop (term + 1)]).mem = 1 ∧ (g.adds [Go.Proofs.YtahagecdebadfaaGreat.noop (term + 1)]).topTerm = term + 1 ∧ (g.adds [Go.Proofs.YtahagecdebadfaaGreat.noop (term + 1)]).top = g.top + 1 ∧
    (g.adds [Go.Proofs.YtahagecdebadfaaGreat.noop (term + 1)]).ents = g.ents ++ [Go.Proofs.YtahagecdebadfaaGreat.noop (term + 1)] ∧ (g.adds [Go.Proofs.YtahagecdebadfaaGreat.noop (term + 1)]).a = g.a := by
  obtain ⟨h1, h2, h3, h4, -, -⟩ := h.good.adds [Go.Proofs.YtahagecdebadfaaGreat.noop (term + 1)] h.noop (by simpa using h.room)
  refine ⟨h1, ?_, by rw [h3]; rfl, ?_, h2, h4⟩
  · rw [h.good.mem_add h.noop h.room]; exact h.one
  · unfold Lg.top; rw [h2, h4]; simp; omega
theorem tick_any (p B : Nat) (term : Int) (g : Lg) (k : Nat) (w : World) (hr : Ready g term) (hk : k ≤ 9) (h : Ph p B term g k w) :
    Calls Tryz.prog 10 #[.pointer (some ⟨p, 0, none⟩)] w fun e w' => e = .returned (.slice none 0 0) ∧ Ph p B term g (k + 1) w' ∧ Sm (fun b => ¬ b = p) w w' := by
  rcases h with ⟨-, hB, lv, hp, hL⟩ | ⟨h10, -⟩
  · by_cases h9 : k = 9
    · subst h9
      obtain ⟨n1, n2, n3, n4, -⟩ := hr.next
      refine (rtick_ask (S := fun b => ¬ b = p) p 0 term 0 9 9 10 _ _ lv _ _ g w hp hL hr.good (fun h => h rfl) (by omega) (by omega) (by rw [hr.one]; decide) hr.t0 hr.t1 hr.tt hr.room (by rw [hr.one]; exact has_one) (by rw [hr.one]; decide +kernel) (by omega) (by omega) (by omega) (by omega) (by omega)).mono ?_
      rintro e w' ⟨rfl, q, q2, h1, h2, h3, h4, h5⟩
      have hpl := (Array.getElem?_eq_some_iff.1 hp).1
      have hc : newCommit (g.adds [noop (term + 1)]) (term + 1) 0 (Int.toNat 0) [0, 0, 0, 0, 0] = g.top + 1 := by
        rw [← n4]
        exact commit_alone n1 n2 n3 (by have := n1.topR.1; omega)
      rw [hc] at h2
      exact ⟨rfl, .inr ⟨rfl, q, Nat.le_trans hB h1, q2, by omega, h2, h3, h4⟩, h5⟩
    · refine (rtick_wait p k k 10 _ _ _ _ _ _ _ _ _ _ w hp (by omega) (by omega) (by omega) (by omega) (by omega)).mono ?_
      rintro e w' ⟨rfl, h2, h5⟩
      exact ⟨rfl, .inl ⟨by omega, Nat.le_trans hB h5.size, lv, by simpa using h2, hL.keepM h5⟩, h5⟩
  · omega
set_option maxHeartbeats 2000000 in
/-- A fresh machine alone. -/
theorem fresh_any (w : World) :
    Calls Tryz.prog 32 #[.int .i64 0, .int .i64 1] w fun e w' => Below w.heap.size w w' ∧ ∃ p, w.heap.size ≤ p ∧ e = .returned (.pointer (some ⟨p, 0, none⟩)) ∧ Ph p w.heap.size 0 (Lg.of 0 0 1 []) 0 w' := by
  have hl0 := Lib.hid fun W => l10log_any (S := fun _ => True) (.slice none 0 0) [] W ⟨[], ⟨rfl, .inl ⟨rfl, .inl rfl⟩⟩, rfl⟩ (by simp)
  have hb := (newB_floor (show newB 0 0 1 = true by decide)).base
  have Hb := Lib.hid hb
  clear hb
  go_enter Tryz.func32, Tryz.ntmps32
  go_wp2_with fail
  refine (hl0.out _).mono ?_
  rintro e w1 ⟨hb1, ⟨-, -, p, y, rfl, hp⟩ | ⟨h0, -⟩⟩
  · obtain ⟨qb, qs, qv, rfl, -⟩ := id hp
    have HL := Lib.hid (hp.mono (T := fun b => b < w1.heap.size) (fun b hb _ => hb))
    clear hp
    go_wp2_with fail
    refine (rnew_any (S := fun b => b < w1.heap.size) 0 (.pointer (some ⟨qb, 0, none⟩)) (Lg.of 0 0 1 []) w1 HL.out Hb.out rfl).mono ?_
    rintro e w2 ⟨hb2, ⟨-, -, p, hp, rfl, hp2⟩ | ⟨hno, -⟩⟩
    · have HP := Lib.hid (show Ph p w.heap.size 0 (Lg.of 0 0 1 []) 0 w2 from .inl ⟨by omega, (below_then hb1 hb2).size, _, hp2, (HL.out.keep hb2).mono (fun b _ hs => by omega)⟩)
      clear hp2
      go_wp2_with fail
      go_ret
      exact ⟨below_then hb1 hb2, p, Nat.le_trans hb1.size hp, rfl, HP.out⟩
    · exact absurd ⟨by decide, by decide⟩ hno
  · simp at h0
end Go.Proofs.YtahagecdebadfaaGreat

/- The statements' own 'known': fixed calls. No statement is proved here. -/
import Derived.Test.YtoaoldhajpbenaaEntK
import Derived.Test.YtoaoldhajpbenaaEntS
import Derived.Deep.DeepCutAuto
namespace Go.Proofs.Ytoaoldhajpbenaa
open Go.RowKit
attribute [local go_sem ↓] Go.wp_at_zero Go.wp_at_succ

theorem five_new (w W : World) (t : TypeId) (x y z u v : Value) (hW : w.alloc (.cells #[x, y, z, u, v] t) = W) :
    (W.cell? ⟨w.heap.size, 0, none⟩ = some x ∧ W.cell? ⟨w.heap.size, 1, none⟩ = some y ∧ W.cell? ⟨w.heap.size, 2, none⟩ = some z ∧ W.cell? ⟨w.heap.size, 3, none⟩ = some u ∧ W.cell? ⟨w.heap.size, 4, none⟩ = some v) ∧ Below w.heap.size w W := by
  subst hW
  obtain ⟨h0, h1, h2, h3, h4, -⟩ := cells5 (blk_new w (.cells #[x, y, z, u, v] t))
  exact ⟨⟨h0, h1, h2, h3, h4⟩, box_below w _⟩

def knownG : Lg := Lg.of 0 0 7 ([1, 1, 2, 2].map termE)
theorem knownG_good : knownG.Good := ((newB_floor (a := 0) (t := 0) (m := 7) rfl).of (es := [1, 1, 2, 2].map termE) rfl (by simp)).1
theorem knownG_a : (knownG.a, knownG.t, knownG.m) = (0, 0, 7) := rfl
theorem knownG_join1 : knownG.join 4 3 [] = ⟨none, false, 0, 0, 2⟩ := rfl
theorem knownG_join2 : knownG.join 2 1 ([3].map termE) = ⟨some ([1, 1, 3].map termE), true, 3, 3, 0⟩ := rfl
theorem knownG_join3 : knownG.join 9 9 [] = ⟨none, false, 0, 0, 4⟩ := rfl
theorem knownG_runs : runsOf knownG.rs = [(1, 1), (3, 2)] := rfl

set_option maxRecDepth 100000 in
set_option maxHeartbeats 400000 in
theorem known_any (w : World) : Calls Try.prog 12 #[] w fun e w' => e = .returned (.bool true) ∧ Below w.heap.size w w' := by
  have R1 := Lib.hid (RowAt.of_blk (S := fun b => w.heap.size ≤ b) (n := 4) (sz := 1) (cs := [1, 1, 2, 2].map (Value.int .i64)) (blk_new w (.cells #[.int .i64 1, .int .i64 1, .int .i64 2, .int .i64 2] 2)) (Nat.le_refl _) rfl (by simp [maxLen]))
  have B1 := box_below w (.cells #[.int .i64 1, .int .i64 1, .int .i64 2, .int .i64 2] 2)
  go_enter Try.func12, Try.ntmps12
  go_upto_region 5 with (first
    | (go_at_call 40; refine (terms_any _ [1, 1, 2, 2] _ R1.out (by simp) (by simp [in64])).mono ?_; rintro _ w1 ⟨lv, rfl, hl, hb1⟩; obtain ⟨A1, c1, rfl⟩ := hl.slice; have Hl := Lib.hid hl; clear hl)
    | (go_at_call 11; refine (log_any 0 0 7 _ ([1, 1, 2, 2].map termE) _ Hl.out (by simp)).mono ?_; rintro _ w2 ⟨hg, hb2⟩; obtain ⟨-, p, rfl, hp⟩ := hg.resolve_right (fun h => absurd h.1 (by decide)); obtain ⟨pb, ps, pv, rfl, hpr⟩ := id hp; have Hp := Lib.hid (hp.mono (T := fun b => b < w2.heap.size) (fun b h _ => h)); clear hp hpr)
    | (go_at_call 13; refine (callsIn_wide.1 (lawRuns_in 3 (by decide) _ knownG knownG_good _ Hp.out)).mono ?_; rintro _ w3 ⟨rv, rfl, hr, hb3⟩; obtain ⟨rb, rc, rfl⟩ := ownsRow_succ (k := 1) hr; have Hr := Lib.hid hr; clear hr))
  have hn0 : ∀ W, Ents (fun b => b < w2.heap.size) W (.slice none 0 0) [] := fun W => ⟨[], ⟨rfl, .inl ⟨rfl, .inl rfl⟩⟩, rfl⟩
  have b3 := below_then (below_then (below_then B1 hb1) hb2) hb3
  go_upto_region 6 with (go_at_call 17; refine (join_any _ knownG 4 3 (.slice none 0 0) [] _ (Hp.out.keep hb3) knownG_good (hn0 _) (by simp [in64]) (by simp)).mono ?_; rintro _ w4 ⟨⟨q, he, hq⟩, hb4⟩; rw [knownG_join1] at he hq; subst he; obtain rfl : q = .pointer none := hq)
  generalize hW4 : w4.alloc (.cells #[.pointer none, .bool false, .int .i64 0, .int .i64 0, .int .i64 2] 40) = W4
  have F4 := five_new w4 W4 _ _ _ _ _ _ hW4
  clear hW4
  obtain ⟨⟨-, x1, -, -, x4⟩, hB4⟩ := F4
  have b4 := below_then (below_then b3 hb4) hB4
  have R2 := Lib.hid (RowAt.of_blk (S := fun b => W4.heap.size ≤ b) (n := 1) (sz := 1) (cs := [3].map (Value.int .i64)) (blk_new W4 (.cells #[.int .i64 3] 2)) (Nat.le_refl _) rfl (by simp [maxLen]))
  have B5 := box_below W4 (.cells #[.int .i64 3] 2)
  go_upto_region 7 with (first
    | (go_at_call 40; have hT := terms_any _ [3] _ R2.out (by simp) (by simp [in64]); refine hT.mono ?_; rintro _ w5 ⟨lv5, rfl, hl5, hb5⟩; obtain ⟨A5, c5, rfl⟩ := hl5.slice; have Hl5 := Lib.hid hl5; clear hl5)
    | fail)
  have hP5 := (Hp.out.keep (below_then (below_then (below_then hb3 hb4) hB4) (below_then B5 hb5))).mono (T := fun _ => True) fun _ _ _ => trivial
  have hE5 := Hl5.out.mono (T := fun _ => True) fun _ _ _ => trivial
  have hJ := join_any (S := fun _ => True) _ knownG 2 1 _ ([3].map termE) _ hP5 knownG_good hE5 (by simp [in64]) (by simp)
  refine hJ.mono ?_
  rintro _ w6 ⟨⟨q, he, hq⟩, hb6⟩; rw [knownG_join2] at he hq
  subst he
  obtain ⟨qb, qs, qv, rfl, -⟩ := hq
  go_upto_region 7 with fail
  generalize hW6 : w6.alloc (.cells #[.pointer (some ⟨qb, 0, none⟩), .bool true, .int .i64 3, .int .i64 3, .int .i64 0] 40) = W6
  have F6 := five_new w6 W6 _ _ _ _ _ _ hW6
  clear hW6
  obtain ⟨⟨-, y1, y2, y3, -⟩, hB6⟩ := F6
  have b6 := below_then (below_then (below_then B5 hb5) hb6) hB6
  go_upto_region 8 with (go_at_call 17; refine (join_any _ knownG 9 9 (.slice none 0 0) [] _ (Hp.out.keep (below_then (below_then (below_then hb3 hb4) hB4) b6)) knownG_good (hn0 _) (by simp [in64]) (by simp)).mono ?_; rintro _ w7 ⟨⟨q, he, hq⟩, hb7⟩; rw [knownG_join3] at he hq; subst he; obtain rfl : q = .pointer none := hq)
  generalize hW7 : w7.alloc (.cells #[.pointer none, .bool false, .int .i64 0, .int .i64 0, .int .i64 4] 40) = W7
  have F7 := five_new w7 W7 _ _ _ _ _ _ hW7
  clear hW7
  obtain ⟨⟨-, z1, -, -, z4⟩, hB7⟩ := F7
  have b7 := below_then hb7 hB7
  have b37 := below_then (below_then (below_then hb4 hB4) b6) b7
  have hr := Hr.out
  rw [knownG_runs] at hr
  have r2 : W7.cell? ⟨rb, 2, none⟩ = some (.int .i64 3) := by
    have := hr.cells (g := rb) rfl 2 (.int .i64 3) rfl
    rw [add_plain, Nat.zero_add] at this
    exact cell_keep b37 this
  have r3 : W7.cell? ⟨rb, 3, none⟩ = some (.int .i64 2) := by
    have := hr.cells (g := rb) rfl 3 (.int .i64 2) rfl
    rw [add_plain, Nat.zero_add] at this
    exact cell_keep b37 this
  have x1' := cell_keep (below_then b6 b7) x1
  have x4' := cell_keep (below_then b6 b7) x4
  have y1' := cell_keep b7 y1
  have y2' := cell_keep b7 y2
  have y3' := cell_keep b7 y3
  have bF := below_then b3 b37
  clear hr
  go_wp2_with fail
  go_ret
  exact ⟨rfl, bF⟩
end Go.Proofs.Ytoaoldhajpbenaa

/- The law RaftNil, walked. No statement is proved here. -/
import Derived.Test.YtahagecdebadfaaGreatQRiA
namespace Go.Proofs.YtahagecdebadfaaGreat
open Go.RowKit

set_option maxRecDepth 100000 in
set_option maxHeartbeats 4000000 in
theorem raftNil_any (m : Msg) (vl vd bv : Value) (w : World) :
    Calls Tryz.prog 5 #[.agg (msgCells m vl vd).toArray, bv] w fun e w' => e = .returned (.bool true) ∧ Below w.heap.size w w' := by
  have HK := Lib.hid fun W => l10known_any W
  unfold msgCells
  go_enter Tryz.func5, Tryz.ntmps5
  go_wp2_with fail
  obtain ⟨W0, hW0⟩ : ∃ W0, w.alloc (.cells #[.int .i64 m.kind, .int .i64 m.src, .int .i64 m.dst, .int .i64 m.term, .int .i64 m.at_, .int .i64 m.atTerm, .int .i64 m.commit, .int .i64 m.round, .bool m.yes, vl, vd] 42) = W0 := ⟨_, rfl⟩
  have hb0 : Below w.heap.size w W0 := by rw [← hW0]; exact box_below w _
  have hM0 : W0.heap[w.heap.size]? = some (.cells #[.int .i64 m.kind, .int .i64 m.src, .int .i64 m.dst, .int .i64 m.term, .int .i64 m.at_, .int .i64 m.atTerm, .int .i64 m.commit, .int .i64 m.round, .bool m.yes, vl, vd] 42 (0, 0)) := by rw [← hW0]; exact blk_new w _
  rw [hW0]
  clear hW0
  refine (nil_new W0).mono ?_
  rintro e w1 ⟨rfl, hb1⟩
  go_wp2_with fail
  refine (nil_draw _ w1).mono ?_
  rintro e w2 ⟨rfl, hb2'⟩
  have hb2 := below_then hb1 hb2'
  go_wp2_with fail
  refine (nil_offer _ _ w2).mono ?_
  rintro e w3 ⟨rfl, hb3'⟩
  have hb3 := below_then hb2 hb3'
  go_wp2_with fail
  refine (nil_part _ _ w3).mono ?_
  rintro e w4 ⟨rfl, hb4'⟩
  have hb4 := below_then hb3 hb4'
  have hM4 := blk_alloc (blk_keep hb4 hM0) (.cells #[.int .i64 0, .int .i64 0, .int .i64 0, .int .i64 0, .int .i64 0, .int .i64 0, .int .i64 0, .int .i64 0, .bool false, .slice none 0 0, .slice none 0 0] 42)
  obtain ⟨⟨c0, c1, c2, c3, c4, c5, c6, c7, c8, c9, c10⟩, -⟩ := cells11' hM4
  clear hb1 hb2 hb2' hb3 hb3'
  unfold msg0V
  go_wp2_with fail
  obtain ⟨W5, hW5⟩ : ∃ W5, w4.alloc (.cells #[.int .i64 0, .int .i64 0, .int .i64 0, .int .i64 0, .int .i64 0, .int .i64 0, .int .i64 0, .int .i64 0, .bool false, .slice none 0 0, .slice none 0 0] 42) = W5 := ⟨_, rfl⟩
  have hb5 : Below W0.heap.size W0 W5 := by rw [← hW5]; exact below_alloc hb4 _
  have hP5 : W5.heap[w4.heap.size]? = some (.cells #[.int .i64 0, .int .i64 0, .int .i64 0, .int .i64 0, .int .i64 0, .int .i64 0, .int .i64 0, .int .i64 0, .bool false, .slice none 0 0, .slice none 0 0] 42) := by rw [← hW5]; exact blk_new w4 _
  rw [hW5] at hM4 c0 c1 c2 c3 c4 c5 c6 c7 c8 c9 c10 ⊢
  clear hW5
  refine (nil_settle m vl vd W5).mono ?_
  rintro e w6 ⟨rfl, hb6'⟩
  have hb6 := below_then hb5 hb6'
  have hM6 := blk_keep hb6' hM4
  have hP6 := blk_keep hb6' hP5
  clear c0 c1 c2 c3 c4 c5 c6 c7 c8 c9 c10 hM4 hP5 hb4 hb5 hb6' hM0 hb4'
  go_wp2_with fail
  obtain ⟨W7, hW7⟩ : ∃ W7, w6.alloc (.cells #[.int .i64 0, .int .i64 0, .int .i64 0, .int .i64 0, .int .i64 0, .int .i64 0, .int .i64 0] 48) = W7 := ⟨_, rfl⟩
  have hb7 : Below W0.heap.size W0 W7 := by rw [← hW7]; exact below_alloc hb6 _
  have hN7 : W7.heap[w6.heap.size]? = some (.cells #[.int .i64 0, .int .i64 0, .int .i64 0, .int .i64 0, .int .i64 0, .int .i64 0, .int .i64 0] 48 (0, 0)) := by rw [← hW7]; exact blk_new w6 _
  have hM7 := blk_alloc hM6 (.cells #[.int .i64 0, .int .i64 0, .int .i64 0, .int .i64 0, .int .i64 0, .int .i64 0, .int .i64 0] 48)
  have hP7 := blk_alloc hP6 (.cells #[.int .i64 0, .int .i64 0, .int .i64 0, .int .i64 0, .int .i64 0, .int .i64 0, .int .i64 0] 48)
  rw [hW7] at hM7 hP7 ⊢
  clear hW7 hM6 hP6 hb6
  have Hb7 := Lib.hid (below_then hb0 hb7)
  have HW := Lib.hid (rfl : w.heap.size = w.heap.size)
  obtain ⟨M, hM⟩ : ∃ M, w.heap.size = M := ⟨_, rfl⟩
  obtain ⟨P, hP⟩ : ∃ P, w4.heap.size = P := ⟨_, rfl⟩
  obtain ⟨N, hN⟩ : ∃ N, w6.heap.size = N := ⟨_, rfl⟩
  rw [hM] at hM7
  rw [hP] at hP7
  rw [hN] at hN7
  simp only [List.append_eq, List.cons_append, List.nil_append]
  simp only [hM, hP, hN]
  clear hM hP hN hb0 hb7 HW
  have hr : Below W7.heap.size W7 W7.drew := (Below.refl _ _).drew
  obtain ⟨⟨m0, m1, m2, m3, m4, m5, m6, m7, m8, m9, m10⟩, -⟩ := cells11' (blk_keep hr hM7); obtain ⟨⟨p0, p1, p2, p3, p4, p5, p6, p7, p8, p9, p10⟩, -⟩ := cells11' (blk_keep hr hP7); obtain ⟨⟨n0, n1, n2, n3, n4, n5, n6⟩, -⟩ := cells7 (blk_keep hr hN7)
  refine wp_region_held_drew (S := (fun w' => w'.cell? ⟨M, 0, none⟩ = some (.int .i64 m.kind) ∧ w'.cell? ⟨M, 1, none⟩ = some (.int .i64 m.src) ∧ w'.cell? ⟨M, 2, none⟩ = some (.int .i64 m.dst) ∧ w'.cell? ⟨M, 3, none⟩ = some (.int .i64 m.term) ∧ w'.cell? ⟨M, 4, none⟩ = some (.int .i64 m.at_) ∧ w'.cell? ⟨M, 5, none⟩ = some (.int .i64 m.atTerm) ∧ w'.cell? ⟨M, 6, none⟩ = some (.int .i64 m.commit) ∧ w'.cell? ⟨M, 7, none⟩ = some (.int .i64 m.round) ∧ w'.cell? ⟨M, 8, none⟩ = some (.bool m.yes) ∧ w'.cell? ⟨M, 9, none⟩ = some (vl) ∧ w'.cell? ⟨M, 10, none⟩ = some (vd) ∧ w'.cell? ⟨P, 0, none⟩ = some (.int .i64 0) ∧ w'.cell? ⟨P, 1, none⟩ = some (.int .i64 0) ∧ w'.cell? ⟨P, 2, none⟩ = some (.int .i64 0) ∧ w'.cell? ⟨P, 3, none⟩ = some (.int .i64 0) ∧ w'.cell? ⟨P, 4, none⟩ = some (.int .i64 0) ∧ w'.cell? ⟨P, 5, none⟩ = some (.int .i64 0) ∧ w'.cell? ⟨P, 6, none⟩ = some (.int .i64 0) ∧ w'.cell? ⟨P, 7, none⟩ = some (.int .i64 0) ∧ w'.cell? ⟨P, 8, none⟩ = some (.bool false) ∧ w'.cell? ⟨P, 9, none⟩ = some (.slice none 0 0) ∧ w'.cell? ⟨P, 10, none⟩ = some (.slice none 0 0) ∧ w'.cell? ⟨N, 0, none⟩ = some (.int .i64 0) ∧ w'.cell? ⟨N, 1, none⟩ = some (.int .i64 0) ∧ w'.cell? ⟨N, 2, none⟩ = some (.int .i64 0) ∧ w'.cell? ⟨N, 3, none⟩ = some (.int .i64 0) ∧ w'.cell? ⟨N, 4, none⟩ = some (.int .i64 0) ∧ w'.cell? ⟨N, 5, none⟩ = some (.int .i64 0) ∧ w'.cell? ⟨N, 6, none⟩ = some (.int .i64 0))) (by kernel_rfl) ?_ ?_
  · ((try dsimp only); first | exact ⟨m0, m1, m2, m3, m4, m5, m6, m7, m8, m9, m10, p0, p1, p2, p3, p4, p5, p6, p7, p8, p9, p10, n0, n1, n2, n3, n4, n5, n6⟩ | go_keep)
  intro hHeld
  refine rg_take 0 (v := ?_) rfl (by kernel_rfl) (by kernel_rfl) (by kernel_rfl) (fun _ _ _ h => h) (by rfl) (by assumption) ?_ ?_
  rotate_left 1
  · (intro w hSw; (try dsimp only at hSw); go_simp; with_reducible rfl)
  try simp only [Act.put, List.setIfInBounds_toArray, List.set_cons_zero, List.set_cons_succ]
  refine rg_take 1 (v := ?_) rfl (by kernel_rfl) (by kernel_rfl) (by kernel_rfl) (fun _ _ _ h => h) (by rfl) (by assumption) ?_ ?_
  rotate_left 1
  · (intro w hSw; (try dsimp only at hSw); go_simp; with_reducible rfl)
  try simp only [Act.put, List.setIfInBounds_toArray, List.set_cons_zero, List.set_cons_succ]
  refine rg_take 2 (v := ?_) rfl (by kernel_rfl) (by kernel_rfl) (by kernel_rfl) (fun _ _ _ h => h) (by rfl) (by assumption) ?_ ?_
  rotate_left 1
  · (intro w hSw; (try dsimp only at hSw); go_simp; with_reducible rfl)
  try simp only [Act.put, List.setIfInBounds_toArray, List.set_cons_zero, List.set_cons_succ]
  refine rg_take 3 (v := ?_) rfl (by kernel_rfl) (by kernel_rfl) (by kernel_rfl) (fun _ _ _ h => h) (by rfl) (by assumption) ?_ ?_
  rotate_left 1
  · (intro w hSw; (try dsimp only at hSw); go_simp; with_reducible rfl)
  try simp only [Act.put, List.setIfInBounds_toArray, List.set_cons_zero, List.set_cons_succ]
  refine rg_take 4 (v := ?_) rfl (by kernel_rfl) (by kernel_rfl) (by kernel_rfl) (fun _ _ _ h => h) (by rfl) (by assumption) ?_ ?_
  rotate_left 1
  · (intro w hSw; (try dsimp only at hSw); go_simp; with_reducible rfl)
  try simp only [Act.put, List.setIfInBounds_toArray, List.set_cons_zero, List.set_cons_succ]
  refine rg_take 5 (v := ?_) rfl (by kernel_rfl) (by kernel_rfl) (by kernel_rfl) (fun _ _ _ h => h) (by rfl) (by assumption) ?_ ?_
  rotate_left 1
  · (intro w hSw; (try dsimp only at hSw); go_simp; with_reducible rfl)
  try simp only [Act.put, List.setIfInBounds_toArray, List.set_cons_zero, List.set_cons_succ]
  refine rg_take 6 (v := ?_) rfl (by kernel_rfl) (by kernel_rfl) (by kernel_rfl) (fun _ _ _ h => h) (by rfl) (by assumption) ?_ ?_
  rotate_left 1
  · (intro w hSw; (try dsimp only at hSw); go_simp; with_reducible rfl)
  try simp only [Act.put, List.setIfInBounds_toArray, List.set_cons_zero, List.set_cons_succ]
  refine rg_take 7 (v := ?_) rfl (by kernel_rfl) (by kernel_rfl) (by kernel_rfl) (fun _ _ _ h => h) (by rfl) (by assumption) ?_ ?_
  rotate_left 1
  · (intro w hSw; (try dsimp only at hSw); go_simp; with_reducible rfl)
  try simp only [Act.put, List.setIfInBounds_toArray, List.set_cons_zero, List.set_cons_succ]
  refine rg_take 9 (v := ?_) rfl (by kernel_rfl) (by kernel_rfl) (by kernel_rfl) (fun _ _ _ h => h) (by rfl) (by assumption) ?_ ?_
  rotate_left 1
  · (intro w hSw; (try dsimp only at hSw); go_simp; with_reducible rfl)
  try simp only [Act.put, List.setIfInBounds_toArray, List.set_cons_zero, List.set_cons_succ]
  refine wpAnyH_ready (rs := [8]) (by kernel_rfl) (by simp) ?_
  refine rg_step 8 rfl (fun K hK => ?_) (AllReadyH.nil)
  go_simp
  first | (go_at_call 12; refine (nil_info _).mono ?_; rintro _ wn ⟨rfl, hbn⟩; replace hr := below_then hr hbn; clear hbn m0 m1 m2 m3 m4 m5 m6 m7 m8 m9 m10 p0 p1 p2 p3 p4 p5 p6 p7 p8 p9 p10 n0 n1 n2 n3 n4 n5 n6; obtain ⟨⟨m0, m1, m2, m3, m4, m5, m6, m7, m8, m9, m10⟩, -⟩ := cells11' (blk_keep hr hM7); obtain ⟨⟨p0, p1, p2, p3, p4, p5, p6, p7, p8, p9, p10⟩, -⟩ := cells11' (blk_keep hr hP7); obtain ⟨⟨n0, n1, n2, n3, n4, n5, n6⟩, -⟩ := cells7 (blk_keep hr hN7)) | (go_at_call 24; refine (nil_log _).mono ?_; rintro _ wn ⟨rfl, hbn⟩; replace hr := below_then hr hbn; clear hbn m0 m1 m2 m3 m4 m5 m6 m7 m8 m9 m10 p0 p1 p2 p3 p4 p5 p6 p7 p8 p9 p10 n0 n1 n2 n3 n4 n5 n6; obtain ⟨⟨m0, m1, m2, m3, m4, m5, m6, m7, m8, m9, m10⟩, -⟩ := cells11' (blk_keep hr hM7); obtain ⟨⟨p0, p1, p2, p3, p4, p5, p6, p7, p8, p9, p10⟩, -⟩ := cells11' (blk_keep hr hP7); obtain ⟨⟨n0, n1, n2, n3, n4, n5, n6⟩, -⟩ := cells7 (blk_keep hr hN7)) | (go_at_call 10; refine (nil_tick _).mono ?_; rintro _ wn ⟨rfl, hbn⟩; replace hr := below_then hr hbn; clear hbn m0 m1 m2 m3 m4 m5 m6 m7 m8 m9 m10 p0 p1 p2 p3 p4 p5 p6 p7 p8 p9 p10 n0 n1 n2 n3 n4 n5 n6; obtain ⟨⟨m0, m1, m2, m3, m4, m5, m6, m7, m8, m9, m10⟩, -⟩ := cells11' (blk_keep hr hM7); obtain ⟨⟨p0, p1, p2, p3, p4, p5, p6, p7, p8, p9, p10⟩, -⟩ := cells11' (blk_keep hr hP7); obtain ⟨⟨n0, n1, n2, n3, n4, n5, n6⟩, -⟩ := cells7 (blk_keep hr hN7)) | (go_at_call 13; refine (nil_take m vl vd _).mono ?_; rintro _ wn ⟨rfl, hbn⟩; replace hr := below_then hr hbn; clear hbn m0 m1 m2 m3 m4 m5 m6 m7 m8 m9 m10 p0 p1 p2 p3 p4 p5 p6 p7 p8 p9 p10 n0 n1 n2 n3 n4 n5 n6; obtain ⟨⟨m0, m1, m2, m3, m4, m5, m6, m7, m8, m9, m10⟩, -⟩ := cells11' (blk_keep hr hM7); obtain ⟨⟨p0, p1, p2, p3, p4, p5, p6, p7, p8, p9, p10⟩, -⟩ := cells11' (blk_keep hr hP7); obtain ⟨⟨n0, n1, n2, n3, n4, n5, n6⟩, -⟩ := cells7 (blk_keep hr hN7)) | (go_at_call 25; refine (nil_one _).mono ?_; rintro _ wn ⟨rfl, hbn⟩; replace hr := below_then hr hbn; clear hbn m0 m1 m2 m3 m4 m5 m6 m7 m8 m9 m10 p0 p1 p2 p3 p4 p5 p6 p7 p8 p9 p10 n0 n1 n2 n3 n4 n5 n6; obtain ⟨⟨m0, m1, m2, m3, m4, m5, m6, m7, m8, m9, m10⟩, -⟩ := cells11' (blk_keep hr hM7); obtain ⟨⟨p0, p1, p2, p3, p4, p5, p6, p7, p8, p9, p10⟩, -⟩ := cells11' (blk_keep hr hP7); obtain ⟨⟨n0, n1, n2, n3, n4, n5, n6⟩, -⟩ := cells7 (blk_keep hr hN7)) | (go_at_call 20; refine (nil_floor _ _).mono ?_; rintro _ wn ⟨rfl, hbn⟩; replace hr := below_then hr hbn; clear hbn m0 m1 m2 m3 m4 m5 m6 m7 m8 m9 m10 p0 p1 p2 p3 p4 p5 p6 p7 p8 p9 p10 n0 n1 n2 n3 n4 n5 n6; obtain ⟨⟨m0, m1, m2, m3, m4, m5, m6, m7, m8, m9, m10⟩, -⟩ := cells11' (blk_keep hr hM7); obtain ⟨⟨p0, p1, p2, p3, p4, p5, p6, p7, p8, p9, p10⟩, -⟩ := cells11' (blk_keep hr hP7); obtain ⟨⟨n0, n1, n2, n3, n4, n5, n6⟩, -⟩ := cells7 (blk_keep hr hN7)) | (go_at_call 26; refine (nil_lacking _).mono ?_; rintro _ wn ⟨rfl, hbn⟩; replace hr := below_then hr hbn; clear hbn m0 m1 m2 m3 m4 m5 m6 m7 m8 m9 m10 p0 p1 p2 p3 p4 p5 p6 p7 p8 p9 p10 n0 n1 n2 n3 n4 n5 n6; obtain ⟨⟨m0, m1, m2, m3, m4, m5, m6, m7, m8, m9, m10⟩, -⟩ := cells11' (blk_keep hr hM7); obtain ⟨⟨p0, p1, p2, p3, p4, p5, p6, p7, p8, p9, p10⟩, -⟩ := cells11' (blk_keep hr hP7); obtain ⟨⟨n0, n1, n2, n3, n4, n5, n6⟩, -⟩ := cells7 (blk_keep hr hN7)) | (go_at_call 27; refine (nil_parts _).mono ?_; rintro _ wn ⟨rfl, hbn⟩; replace hr := below_then hr hbn; clear hbn m0 m1 m2 m3 m4 m5 m6 m7 m8 m9 m10 p0 p1 p2 p3 p4 p5 p6 p7 p8 p9 p10 n0 n1 n2 n3 n4 n5 n6; obtain ⟨⟨m0, m1, m2, m3, m4, m5, m6, m7, m8, m9, m10⟩, -⟩ := cells11' (blk_keep hr hM7); obtain ⟨⟨p0, p1, p2, p3, p4, p5, p6, p7, p8, p9, p10⟩, -⟩ := cells11' (blk_keep hr hP7); obtain ⟨⟨n0, n1, n2, n3, n4, n5, n6⟩, -⟩ := cells7 (blk_keep hr hN7)) | (go_at_call 7; refine (HK.out _).mono ?_; rintro _ wn ⟨rfl, hbn⟩; replace hr := below_then hr hbn; clear hbn m0 m1 m2 m3 m4 m5 m6 m7 m8 m9 m10 p0 p1 p2 p3 p4 p5 p6 p7 p8 p9 p10 n0 n1 n2 n3 n4 n5 n6; obtain ⟨⟨m0, m1, m2, m3, m4, m5, m6, m7, m8, m9, m10⟩, -⟩ := cells11' (blk_keep hr hM7); obtain ⟨⟨p0, p1, p2, p3, p4, p5, p6, p7, p8, p9, p10⟩, -⟩ := cells11' (blk_keep hr hP7); obtain ⟨⟨n0, n1, n2, n3, n4, n5, n6⟩, -⟩ := cells7 (blk_keep hr hN7))
  go_wp2_with fail
  refine hK.out _ _ ?_ ?_
  · ((try dsimp only); first | exact ⟨m0, m1, m2, m3, m4, m5, m6, m7, m8, m9, m10, p0, p1, p2, p3, p4, p5, p6, p7, p8, p9, p10, n0, n1, n2, n3, n4, n5, n6⟩ | go_keep)
  clear hHeld hK K
  intro hHeld
  try simp only [Act.put, List.setIfInBounds_toArray, List.set_cons_zero, List.set_cons_succ]
  refine rg_take 10 (v := ?_) rfl (by kernel_rfl) (by kernel_rfl) (by kernel_rfl) (fun _ _ _ h => h) (by rfl) (by assumption) ?_ ?_
  rotate_left 1
  · (intro w hSw; (try dsimp only at hSw); go_simp; with_reducible rfl)
  try simp only [Act.put, List.setIfInBounds_toArray, List.set_cons_zero, List.set_cons_succ]
  refine rg_take 11 (v := ?_) rfl (by kernel_rfl) (by kernel_rfl) (by kernel_rfl) (fun _ _ _ h => h) (by rfl) (by assumption) ?_ ?_
  rotate_left 1
  · (intro w hSw; (try dsimp only at hSw); go_simp; with_reducible rfl)
  try simp only [Act.put, List.setIfInBounds_toArray, List.set_cons_zero, List.set_cons_succ]
  refine rg_take 12 (v := ?_) rfl (by kernel_rfl) (by kernel_rfl) (by kernel_rfl) (fun _ _ _ h => h) (by rfl) (by assumption) ?_ ?_
  rotate_left 1
  · (intro w hSw; (try dsimp only at hSw); go_simp; with_reducible rfl)
  try simp only [Act.put, List.setIfInBounds_toArray, List.set_cons_zero, List.set_cons_succ]
  refine rg_take 13 (v := ?_) rfl (by kernel_rfl) (by kernel_rfl) (by kernel_rfl) (fun _ _ _ h => h) (by rfl) (by assumption) ?_ ?_
  rotate_left 1
  · (intro w hSw; (try dsimp only at hSw); go_simp; with_reducible rfl)
  try simp only [Act.put, List.setIfInBounds_toArray, List.set_cons_zero, List.set_cons_succ]
  refine wpAnyH_ready (rs := [14]) (by kernel_rfl) (by simp) ?_
  refine rg_step 14 rfl (fun K hK => ?_) (AllReadyH.nil)
  go_simp
  first | (go_at_call 12; refine (nil_info _).mono ?_; rintro _ wn ⟨rfl, hbn⟩; replace hr := below_then hr hbn; clear hbn m0 m1 m2 m3 m4 m5 m6 m7 m8 m9 m10 p0 p1 p2 p3 p4 p5 p6 p7 p8 p9 p10 n0 n1 n2 n3 n4 n5 n6; obtain ⟨⟨m0, m1, m2, m3, m4, m5, m6, m7, m8, m9, m10⟩, -⟩ := cells11' (blk_keep hr hM7); obtain ⟨⟨p0, p1, p2, p3, p4, p5, p6, p7, p8, p9, p10⟩, -⟩ := cells11' (blk_keep hr hP7); obtain ⟨⟨n0, n1, n2, n3, n4, n5, n6⟩, -⟩ := cells7 (blk_keep hr hN7)) | (go_at_call 24; refine (nil_log _).mono ?_; rintro _ wn ⟨rfl, hbn⟩; replace hr := below_then hr hbn; clear hbn m0 m1 m2 m3 m4 m5 m6 m7 m8 m9 m10 p0 p1 p2 p3 p4 p5 p6 p7 p8 p9 p10 n0 n1 n2 n3 n4 n5 n6; obtain ⟨⟨m0, m1, m2, m3, m4, m5, m6, m7, m8, m9, m10⟩, -⟩ := cells11' (blk_keep hr hM7); obtain ⟨⟨p0, p1, p2, p3, p4, p5, p6, p7, p8, p9, p10⟩, -⟩ := cells11' (blk_keep hr hP7); obtain ⟨⟨n0, n1, n2, n3, n4, n5, n6⟩, -⟩ := cells7 (blk_keep hr hN7)) | (go_at_call 10; refine (nil_tick _).mono ?_; rintro _ wn ⟨rfl, hbn⟩; replace hr := below_then hr hbn; clear hbn m0 m1 m2 m3 m4 m5 m6 m7 m8 m9 m10 p0 p1 p2 p3 p4 p5 p6 p7 p8 p9 p10 n0 n1 n2 n3 n4 n5 n6; obtain ⟨⟨m0, m1, m2, m3, m4, m5, m6, m7, m8, m9, m10⟩, -⟩ := cells11' (blk_keep hr hM7); obtain ⟨⟨p0, p1, p2, p3, p4, p5, p6, p7, p8, p9, p10⟩, -⟩ := cells11' (blk_keep hr hP7); obtain ⟨⟨n0, n1, n2, n3, n4, n5, n6⟩, -⟩ := cells7 (blk_keep hr hN7)) | (go_at_call 13; refine (nil_take m vl vd _).mono ?_; rintro _ wn ⟨rfl, hbn⟩; replace hr := below_then hr hbn; clear hbn m0 m1 m2 m3 m4 m5 m6 m7 m8 m9 m10 p0 p1 p2 p3 p4 p5 p6 p7 p8 p9 p10 n0 n1 n2 n3 n4 n5 n6; obtain ⟨⟨m0, m1, m2, m3, m4, m5, m6, m7, m8, m9, m10⟩, -⟩ := cells11' (blk_keep hr hM7); obtain ⟨⟨p0, p1, p2, p3, p4, p5, p6, p7, p8, p9, p10⟩, -⟩ := cells11' (blk_keep hr hP7); obtain ⟨⟨n0, n1, n2, n3, n4, n5, n6⟩, -⟩ := cells7 (blk_keep hr hN7)) | (go_at_call 25; refine (nil_one _).mono ?_; rintro _ wn ⟨rfl, hbn⟩; replace hr := below_then hr hbn; clear hbn m0 m1 m2 m3 m4 m5 m6 m7 m8 m9 m10 p0 p1 p2 p3 p4 p5 p6 p7 p8 p9 p10 n0 n1 n2 n3 n4 n5 n6; obtain ⟨⟨m0, m1, m2, m3, m4, m5, m6, m7, m8, m9, m10⟩, -⟩ := cells11' (blk_keep hr hM7); obtain ⟨⟨p0, p1, p2, p3, p4, p5, p6, p7, p8, p9, p10⟩, -⟩ := cells11' (blk_keep hr hP7); obtain ⟨⟨n0, n1, n2, n3, n4, n5, n6⟩, -⟩ := cells7 (blk_keep hr hN7)) | (go_at_call 20; refine (nil_floor _ _).mono ?_; rintro _ wn ⟨rfl, hbn⟩; replace hr := below_then hr hbn; clear hbn m0 m1 m2 m3 m4 m5 m6 m7 m8 m9 m10 p0 p1 p2 p3 p4 p5 p6 p7 p8 p9 p10 n0 n1 n2 n3 n4 n5 n6; obtain ⟨⟨m0, m1, m2, m3, m4, m5, m6, m7, m8, m9, m10⟩, -⟩ := cells11' (blk_keep hr hM7); obtain ⟨⟨p0, p1, p2, p3, p4, p5, p6, p7, p8, p9, p10⟩, -⟩ := cells11' (blk_keep hr hP7); obtain ⟨⟨n0, n1, n2, n3, n4, n5, n6⟩, -⟩ := cells7 (blk_keep hr hN7)) | (go_at_call 26; refine (nil_lacking _).mono ?_; rintro _ wn ⟨rfl, hbn⟩; replace hr := below_then hr hbn; clear hbn m0 m1 m2 m3 m4 m5 m6 m7 m8 m9 m10 p0 p1 p2 p3 p4 p5 p6 p7 p8 p9 p10 n0 n1 n2 n3 n4 n5 n6; obtain ⟨⟨m0, m1, m2, m3, m4, m5, m6, m7, m8, m9, m10⟩, -⟩ := cells11' (blk_keep hr hM7); obtain ⟨⟨p0, p1, p2, p3, p4, p5, p6, p7, p8, p9, p10⟩, -⟩ := cells11' (blk_keep hr hP7); obtain ⟨⟨n0, n1, n2, n3, n4, n5, n6⟩, -⟩ := cells7 (blk_keep hr hN7)) | (go_at_call 27; refine (nil_parts _).mono ?_; rintro _ wn ⟨rfl, hbn⟩; replace hr := below_then hr hbn; clear hbn m0 m1 m2 m3 m4 m5 m6 m7 m8 m9 m10 p0 p1 p2 p3 p4 p5 p6 p7 p8 p9 p10 n0 n1 n2 n3 n4 n5 n6; obtain ⟨⟨m0, m1, m2, m3, m4, m5, m6, m7, m8, m9, m10⟩, -⟩ := cells11' (blk_keep hr hM7); obtain ⟨⟨p0, p1, p2, p3, p4, p5, p6, p7, p8, p9, p10⟩, -⟩ := cells11' (blk_keep hr hP7); obtain ⟨⟨n0, n1, n2, n3, n4, n5, n6⟩, -⟩ := cells7 (blk_keep hr hN7)) | (go_at_call 7; refine (HK.out _).mono ?_; rintro _ wn ⟨rfl, hbn⟩; replace hr := below_then hr hbn; clear hbn m0 m1 m2 m3 m4 m5 m6 m7 m8 m9 m10 p0 p1 p2 p3 p4 p5 p6 p7 p8 p9 p10 n0 n1 n2 n3 n4 n5 n6; obtain ⟨⟨m0, m1, m2, m3, m4, m5, m6, m7, m8, m9, m10⟩, -⟩ := cells11' (blk_keep hr hM7); obtain ⟨⟨p0, p1, p2, p3, p4, p5, p6, p7, p8, p9, p10⟩, -⟩ := cells11' (blk_keep hr hP7); obtain ⟨⟨n0, n1, n2, n3, n4, n5, n6⟩, -⟩ := cells7 (blk_keep hr hN7))
  go_wp2_with fail
  refine hK.out _ _ ?_ ?_
  · ((try dsimp only); first | exact ⟨m0, m1, m2, m3, m4, m5, m6, m7, m8, m9, m10, p0, p1, p2, p3, p4, p5, p6, p7, p8, p9, p10, n0, n1, n2, n3, n4, n5, n6⟩ | go_keep)
  clear hHeld hK K
  intro hHeld
  try simp only [Act.put, List.setIfInBounds_toArray, List.set_cons_zero, List.set_cons_succ]
  refine rg_take 15 (v := ?_) rfl (by kernel_rfl) (by kernel_rfl) (by kernel_rfl) (fun _ _ _ h => h) (by rfl) (by assumption) ?_ ?_
  rotate_left 1
  · (intro w hSw; (try dsimp only at hSw); go_simp; with_reducible rfl)
  try simp only [Act.put, List.setIfInBounds_toArray, List.set_cons_zero, List.set_cons_succ]
  refine rg_take 16 (v := ?_) rfl (by kernel_rfl) (by kernel_rfl) (by kernel_rfl) (fun _ _ _ h => h) (by rfl) (by assumption) ?_ ?_
  rotate_left 1
  · (intro w hSw; (try dsimp only at hSw); go_simp; with_reducible rfl)
  try simp only [Act.put, List.setIfInBounds_toArray, List.set_cons_zero, List.set_cons_succ]
  refine rg_take 17 (v := ?_) rfl (by kernel_rfl) (by kernel_rfl) (by kernel_rfl) (fun _ _ _ h => h) (by rfl) (by assumption) ?_ ?_
  rotate_left 1
  · (intro w hSw; (try dsimp only at hSw); go_simp; with_reducible rfl)
  try simp only [Act.put, List.setIfInBounds_toArray, List.set_cons_zero, List.set_cons_succ]
  refine rg_take 18 (v := ?_) rfl (by kernel_rfl) (by kernel_rfl) (by kernel_rfl) (fun _ _ _ h => h) (by rfl) (by assumption) ?_ ?_
  rotate_left 1
  · (intro w hSw; (try dsimp only at hSw); go_simp; with_reducible rfl)
  try simp only [Act.put, List.setIfInBounds_toArray, List.set_cons_zero, List.set_cons_succ]
  refine wpAnyH_ready (rs := [19]) (by kernel_rfl) (by simp) ?_
  refine rg_step 19 rfl (fun K hK => ?_) (AllReadyH.nil)
  go_simp
  first | (go_at_call 12; refine (nil_info _).mono ?_; rintro _ wn ⟨rfl, hbn⟩; replace hr := below_then hr hbn; clear hbn m0 m1 m2 m3 m4 m5 m6 m7 m8 m9 m10 p0 p1 p2 p3 p4 p5 p6 p7 p8 p9 p10 n0 n1 n2 n3 n4 n5 n6; obtain ⟨⟨m0, m1, m2, m3, m4, m5, m6, m7, m8, m9, m10⟩, -⟩ := cells11' (blk_keep hr hM7); obtain ⟨⟨p0, p1, p2, p3, p4, p5, p6, p7, p8, p9, p10⟩, -⟩ := cells11' (blk_keep hr hP7); obtain ⟨⟨n0, n1, n2, n3, n4, n5, n6⟩, -⟩ := cells7 (blk_keep hr hN7)) | (go_at_call 24; refine (nil_log _).mono ?_; rintro _ wn ⟨rfl, hbn⟩; replace hr := below_then hr hbn; clear hbn m0 m1 m2 m3 m4 m5 m6 m7 m8 m9 m10 p0 p1 p2 p3 p4 p5 p6 p7 p8 p9 p10 n0 n1 n2 n3 n4 n5 n6; obtain ⟨⟨m0, m1, m2, m3, m4, m5, m6, m7, m8, m9, m10⟩, -⟩ := cells11' (blk_keep hr hM7); obtain ⟨⟨p0, p1, p2, p3, p4, p5, p6, p7, p8, p9, p10⟩, -⟩ := cells11' (blk_keep hr hP7); obtain ⟨⟨n0, n1, n2, n3, n4, n5, n6⟩, -⟩ := cells7 (blk_keep hr hN7)) | (go_at_call 10; refine (nil_tick _).mono ?_; rintro _ wn ⟨rfl, hbn⟩; replace hr := below_then hr hbn; clear hbn m0 m1 m2 m3 m4 m5 m6 m7 m8 m9 m10 p0 p1 p2 p3 p4 p5 p6 p7 p8 p9 p10 n0 n1 n2 n3 n4 n5 n6; obtain ⟨⟨m0, m1, m2, m3, m4, m5, m6, m7, m8, m9, m10⟩, -⟩ := cells11' (blk_keep hr hM7); obtain ⟨⟨p0, p1, p2, p3, p4, p5, p6, p7, p8, p9, p10⟩, -⟩ := cells11' (blk_keep hr hP7); obtain ⟨⟨n0, n1, n2, n3, n4, n5, n6⟩, -⟩ := cells7 (blk_keep hr hN7)) | (go_at_call 13; refine (nil_take m vl vd _).mono ?_; rintro _ wn ⟨rfl, hbn⟩; replace hr := below_then hr hbn; clear hbn m0 m1 m2 m3 m4 m5 m6 m7 m8 m9 m10 p0 p1 p2 p3 p4 p5 p6 p7 p8 p9 p10 n0 n1 n2 n3 n4 n5 n6; obtain ⟨⟨m0, m1, m2, m3, m4, m5, m6, m7, m8, m9, m10⟩, -⟩ := cells11' (blk_keep hr hM7); obtain ⟨⟨p0, p1, p2, p3, p4, p5, p6, p7, p8, p9, p10⟩, -⟩ := cells11' (blk_keep hr hP7); obtain ⟨⟨n0, n1, n2, n3, n4, n5, n6⟩, -⟩ := cells7 (blk_keep hr hN7)) | (go_at_call 25; refine (nil_one _).mono ?_; rintro _ wn ⟨rfl, hbn⟩; replace hr := below_then hr hbn; clear hbn m0 m1 m2 m3 m4 m5 m6 m7 m8 m9 m10 p0 p1 p2 p3 p4 p5 p6 p7 p8 p9 p10 n0 n1 n2 n3 n4 n5 n6; obtain ⟨⟨m0, m1, m2, m3, m4, m5, m6, m7, m8, m9, m10⟩, -⟩ := cells11' (blk_keep hr hM7); obtain ⟨⟨p0, p1, p2, p3, p4, p5, p6, p7, p8, p9, p10⟩, -⟩ := cells11' (blk_keep hr hP7); obtain ⟨⟨n0, n1, n2, n3, n4, n5, n6⟩, -⟩ := cells7 (blk_keep hr hN7)) | (go_at_call 20; refine (nil_floor _ _).mono ?_; rintro _ wn ⟨rfl, hbn⟩; replace hr := below_then hr hbn; clear hbn m0 m1 m2 m3 m4 m5 m6 m7 m8 m9 m10 p0 p1 p2 p3 p4 p5 p6 p7 p8 p9 p10 n0 n1 n2 n3 n4 n5 n6; obtain ⟨⟨m0, m1, m2, m3, m4, m5, m6, m7, m8, m9, m10⟩, -⟩ := cells11' (blk_keep hr hM7); obtain ⟨⟨p0, p1, p2, p3, p4, p5, p6, p7, p8, p9, p10⟩, -⟩ := cells11' (blk_keep hr hP7); obtain ⟨⟨n0, n1, n2, n3, n4, n5, n6⟩, -⟩ := cells7 (blk_keep hr hN7)) | (go_at_call 26; refine (nil_lacking _).mono ?_; rintro _ wn ⟨rfl, hbn⟩; replace hr := below_then hr hbn; clear hbn m0 m1 m2 m3 m4 m5 m6 m7 m8 m9 m10 p0 p1 p2 p3 p4 p5 p6 p7 p8 p9 p10 n0 n1 n2 n3 n4 n5 n6; obtain ⟨⟨m0, m1, m2, m3, m4, m5, m6, m7, m8, m9, m10⟩, -⟩ := cells11' (blk_keep hr hM7); obtain ⟨⟨p0, p1, p2, p3, p4, p5, p6, p7, p8, p9, p10⟩, -⟩ := cells11' (blk_keep hr hP7); obtain ⟨⟨n0, n1, n2, n3, n4, n5, n6⟩, -⟩ := cells7 (blk_keep hr hN7)) | (go_at_call 27; refine (nil_parts _).mono ?_; rintro _ wn ⟨rfl, hbn⟩; replace hr := below_then hr hbn; clear hbn m0 m1 m2 m3 m4 m5 m6 m7 m8 m9 m10 p0 p1 p2 p3 p4 p5 p6 p7 p8 p9 p10 n0 n1 n2 n3 n4 n5 n6; obtain ⟨⟨m0, m1, m2, m3, m4, m5, m6, m7, m8, m9, m10⟩, -⟩ := cells11' (blk_keep hr hM7); obtain ⟨⟨p0, p1, p2, p3, p4, p5, p6, p7, p8, p9, p10⟩, -⟩ := cells11' (blk_keep hr hP7); obtain ⟨⟨n0, n1, n2, n3, n4, n5, n6⟩, -⟩ := cells7 (blk_keep hr hN7)) | (go_at_call 7; refine (HK.out _).mono ?_; rintro _ wn ⟨rfl, hbn⟩; replace hr := below_then hr hbn; clear hbn m0 m1 m2 m3 m4 m5 m6 m7 m8 m9 m10 p0 p1 p2 p3 p4 p5 p6 p7 p8 p9 p10 n0 n1 n2 n3 n4 n5 n6; obtain ⟨⟨m0, m1, m2, m3, m4, m5, m6, m7, m8, m9, m10⟩, -⟩ := cells11' (blk_keep hr hM7); obtain ⟨⟨p0, p1, p2, p3, p4, p5, p6, p7, p8, p9, p10⟩, -⟩ := cells11' (blk_keep hr hP7); obtain ⟨⟨n0, n1, n2, n3, n4, n5, n6⟩, -⟩ := cells7 (blk_keep hr hN7))
  go_wp2_with fail
  refine hK.out _ _ ?_ ?_
  · ((try dsimp only); first | exact ⟨m0, m1, m2, m3, m4, m5, m6, m7, m8, m9, m10, p0, p1, p2, p3, p4, p5, p6, p7, p8, p9, p10, n0, n1, n2, n3, n4, n5, n6⟩ | go_keep)
  clear hHeld hK K
  intro hHeld
  try simp only [Act.put, List.setIfInBounds_toArray, List.set_cons_zero, List.set_cons_succ]
  refine rg_take 20 (v := ?_) rfl (by kernel_rfl) (by kernel_rfl) (by kernel_rfl) (fun _ _ _ h => h) (by rfl) (by assumption) ?_ ?_
  rotate_left 1
  · (intro w hSw; (try dsimp only at hSw); go_simp; with_reducible rfl)
  try simp only [Act.put, List.setIfInBounds_toArray, List.set_cons_zero, List.set_cons_succ]
  refine rg_take 21 (v := ?_) rfl (by kernel_rfl) (by kernel_rfl) (by kernel_rfl) (fun _ _ _ h => h) (by rfl) (by assumption) ?_ ?_
  rotate_left 1
  · (intro w hSw; (try dsimp only at hSw); go_simp; with_reducible rfl)
  try simp only [Act.put, List.setIfInBounds_toArray, List.set_cons_zero, List.set_cons_succ]
  refine rg_take 22 (v := ?_) rfl (by kernel_rfl) (by kernel_rfl) (by kernel_rfl) (fun _ _ _ h => h) (by rfl) (by assumption) ?_ ?_
  rotate_left 1
  · (intro w hSw; (try dsimp only at hSw); go_simp; with_reducible rfl)
  try simp only [Act.put, List.setIfInBounds_toArray, List.set_cons_zero, List.set_cons_succ]
  refine rg_take 23 (v := ?_) rfl (by kernel_rfl) (by kernel_rfl) (by kernel_rfl) (fun _ _ _ h => h) (by rfl) (by assumption) ?_ ?_
  rotate_left 1
  · (intro w hSw; (try dsimp only at hSw); go_simp; with_reducible rfl)
  try simp only [Act.put, List.setIfInBounds_toArray, List.set_cons_zero, List.set_cons_succ]
  refine rg_take 24 (v := ?_) rfl (by kernel_rfl) (by kernel_rfl) (by kernel_rfl) (fun _ _ _ h => h) (by rfl) (by assumption) ?_ ?_
  rotate_left 1
  · (intro w hSw; (try dsimp only at hSw); go_simp; with_reducible rfl)
  try simp only [Act.put, List.setIfInBounds_toArray, List.set_cons_zero, List.set_cons_succ]
  refine rg_take 25 (v := ?_) rfl (by kernel_rfl) (by kernel_rfl) (by kernel_rfl) (fun _ _ _ h => h) (by rfl) (by assumption) ?_ ?_
  rotate_left 1
  · (intro w hSw; (try dsimp only at hSw); go_simp; with_reducible rfl)
  try simp only [Act.put, List.setIfInBounds_toArray, List.set_cons_zero, List.set_cons_succ]
  refine wpAnyH_ready (rs := [26]) (by kernel_rfl) (by simp) ?_
  refine rg_step 26 rfl (fun K hK => ?_) (AllReadyH.nil)
  go_simp
  first | (go_at_call 12; refine (nil_info _).mono ?_; rintro _ wn ⟨rfl, hbn⟩; replace hr := below_then hr hbn; clear hbn m0 m1 m2 m3 m4 m5 m6 m7 m8 m9 m10 p0 p1 p2 p3 p4 p5 p6 p7 p8 p9 p10 n0 n1 n2 n3 n4 n5 n6; obtain ⟨⟨m0, m1, m2, m3, m4, m5, m6, m7, m8, m9, m10⟩, -⟩ := cells11' (blk_keep hr hM7); obtain ⟨⟨p0, p1, p2, p3, p4, p5, p6, p7, p8, p9, p10⟩, -⟩ := cells11' (blk_keep hr hP7); obtain ⟨⟨n0, n1, n2, n3, n4, n5, n6⟩, -⟩ := cells7 (blk_keep hr hN7)) | (go_at_call 24; refine (nil_log _).mono ?_; rintro _ wn ⟨rfl, hbn⟩; replace hr := below_then hr hbn; clear hbn m0 m1 m2 m3 m4 m5 m6 m7 m8 m9 m10 p0 p1 p2 p3 p4 p5 p6 p7 p8 p9 p10 n0 n1 n2 n3 n4 n5 n6; obtain ⟨⟨m0, m1, m2, m3, m4, m5, m6, m7, m8, m9, m10⟩, -⟩ := cells11' (blk_keep hr hM7); obtain ⟨⟨p0, p1, p2, p3, p4, p5, p6, p7, p8, p9, p10⟩, -⟩ := cells11' (blk_keep hr hP7); obtain ⟨⟨n0, n1, n2, n3, n4, n5, n6⟩, -⟩ := cells7 (blk_keep hr hN7)) | (go_at_call 10; refine (nil_tick _).mono ?_; rintro _ wn ⟨rfl, hbn⟩; replace hr := below_then hr hbn; clear hbn m0 m1 m2 m3 m4 m5 m6 m7 m8 m9 m10 p0 p1 p2 p3 p4 p5 p6 p7 p8 p9 p10 n0 n1 n2 n3 n4 n5 n6; obtain ⟨⟨m0, m1, m2, m3, m4, m5, m6, m7, m8, m9, m10⟩, -⟩ := cells11' (blk_keep hr hM7); obtain ⟨⟨p0, p1, p2, p3, p4, p5, p6, p7, p8, p9, p10⟩, -⟩ := cells11' (blk_keep hr hP7); obtain ⟨⟨n0, n1, n2, n3, n4, n5, n6⟩, -⟩ := cells7 (blk_keep hr hN7)) | (go_at_call 13; refine (nil_take m vl vd _).mono ?_; rintro _ wn ⟨rfl, hbn⟩; replace hr := below_then hr hbn; clear hbn m0 m1 m2 m3 m4 m5 m6 m7 m8 m9 m10 p0 p1 p2 p3 p4 p5 p6 p7 p8 p9 p10 n0 n1 n2 n3 n4 n5 n6; obtain ⟨⟨m0, m1, m2, m3, m4, m5, m6, m7, m8, m9, m10⟩, -⟩ := cells11' (blk_keep hr hM7); obtain ⟨⟨p0, p1, p2, p3, p4, p5, p6, p7, p8, p9, p10⟩, -⟩ := cells11' (blk_keep hr hP7); obtain ⟨⟨n0, n1, n2, n3, n4, n5, n6⟩, -⟩ := cells7 (blk_keep hr hN7)) | (go_at_call 25; refine (nil_one _).mono ?_; rintro _ wn ⟨rfl, hbn⟩; replace hr := below_then hr hbn; clear hbn m0 m1 m2 m3 m4 m5 m6 m7 m8 m9 m10 p0 p1 p2 p3 p4 p5 p6 p7 p8 p9 p10 n0 n1 n2 n3 n4 n5 n6; obtain ⟨⟨m0, m1, m2, m3, m4, m5, m6, m7, m8, m9, m10⟩, -⟩ := cells11' (blk_keep hr hM7); obtain ⟨⟨p0, p1, p2, p3, p4, p5, p6, p7, p8, p9, p10⟩, -⟩ := cells11' (blk_keep hr hP7); obtain ⟨⟨n0, n1, n2, n3, n4, n5, n6⟩, -⟩ := cells7 (blk_keep hr hN7)) | (go_at_call 20; refine (nil_floor _ _).mono ?_; rintro _ wn ⟨rfl, hbn⟩; replace hr := below_then hr hbn; clear hbn m0 m1 m2 m3 m4 m5 m6 m7 m8 m9 m10 p0 p1 p2 p3 p4 p5 p6 p7 p8 p9 p10 n0 n1 n2 n3 n4 n5 n6; obtain ⟨⟨m0, m1, m2, m3, m4, m5, m6, m7, m8, m9, m10⟩, -⟩ := cells11' (blk_keep hr hM7); obtain ⟨⟨p0, p1, p2, p3, p4, p5, p6, p7, p8, p9, p10⟩, -⟩ := cells11' (blk_keep hr hP7); obtain ⟨⟨n0, n1, n2, n3, n4, n5, n6⟩, -⟩ := cells7 (blk_keep hr hN7)) | (go_at_call 26; refine (nil_lacking _).mono ?_; rintro _ wn ⟨rfl, hbn⟩; replace hr := below_then hr hbn; clear hbn m0 m1 m2 m3 m4 m5 m6 m7 m8 m9 m10 p0 p1 p2 p3 p4 p5 p6 p7 p8 p9 p10 n0 n1 n2 n3 n4 n5 n6; obtain ⟨⟨m0, m1, m2, m3, m4, m5, m6, m7, m8, m9, m10⟩, -⟩ := cells11' (blk_keep hr hM7); obtain ⟨⟨p0, p1, p2, p3, p4, p5, p6, p7, p8, p9, p10⟩, -⟩ := cells11' (blk_keep hr hP7); obtain ⟨⟨n0, n1, n2, n3, n4, n5, n6⟩, -⟩ := cells7 (blk_keep hr hN7)) | (go_at_call 27; refine (nil_parts _).mono ?_; rintro _ wn ⟨rfl, hbn⟩; replace hr := below_then hr hbn; clear hbn m0 m1 m2 m3 m4 m5 m6 m7 m8 m9 m10 p0 p1 p2 p3 p4 p5 p6 p7 p8 p9 p10 n0 n1 n2 n3 n4 n5 n6; obtain ⟨⟨m0, m1, m2, m3, m4, m5, m6, m7, m8, m9, m10⟩, -⟩ := cells11' (blk_keep hr hM7); obtain ⟨⟨p0, p1, p2, p3, p4, p5, p6, p7, p8, p9, p10⟩, -⟩ := cells11' (blk_keep hr hP7); obtain ⟨⟨n0, n1, n2, n3, n4, n5, n6⟩, -⟩ := cells7 (blk_keep hr hN7)) | (go_at_call 7; refine (HK.out _).mono ?_; rintro _ wn ⟨rfl, hbn⟩; replace hr := below_then hr hbn; clear hbn m0 m1 m2 m3 m4 m5 m6 m7 m8 m9 m10 p0 p1 p2 p3 p4 p5 p6 p7 p8 p9 p10 n0 n1 n2 n3 n4 n5 n6; obtain ⟨⟨m0, m1, m2, m3, m4, m5, m6, m7, m8, m9, m10⟩, -⟩ := cells11' (blk_keep hr hM7); obtain ⟨⟨p0, p1, p2, p3, p4, p5, p6, p7, p8, p9, p10⟩, -⟩ := cells11' (blk_keep hr hP7); obtain ⟨⟨n0, n1, n2, n3, n4, n5, n6⟩, -⟩ := cells7 (blk_keep hr hN7))
  go_wp2_with fail
  refine hK.out _ _ ?_ ?_
  · ((try dsimp only); first | exact ⟨m0, m1, m2, m3, m4, m5, m6, m7, m8, m9, m10, p0, p1, p2, p3, p4, p5, p6, p7, p8, p9, p10, n0, n1, n2, n3, n4, n5, n6⟩ | go_keep)
  clear hHeld hK K
  intro hHeld
  try simp only [Act.put, List.setIfInBounds_toArray, List.set_cons_zero, List.set_cons_succ]
  refine rg_take 27 (v := ?_) rfl (by kernel_rfl) (by kernel_rfl) (by kernel_rfl) (fun _ _ _ h => h) (by rfl) (by assumption) ?_ ?_
  rotate_left 1
  · (intro w hSw; (try dsimp only at hSw); go_simp; with_reducible rfl)
  try simp only [Act.put, List.setIfInBounds_toArray, List.set_cons_zero, List.set_cons_succ]
  refine rg_take 28 (v := ?_) rfl (by kernel_rfl) (by kernel_rfl) (by kernel_rfl) (fun _ _ _ h => h) (by rfl) (by assumption) ?_ ?_
  rotate_left 1
  · (intro w hSw; (try dsimp only at hSw); go_simp; with_reducible rfl)
  try simp only [Act.put, List.setIfInBounds_toArray, List.set_cons_zero, List.set_cons_succ]
  refine rg_take 29 (v := ?_) rfl (by kernel_rfl) (by kernel_rfl) (by kernel_rfl) (fun _ _ _ h => h) (by rfl) (by assumption) ?_ ?_
  rotate_left 1
  · (intro w hSw; (try dsimp only at hSw); go_simp; with_reducible rfl)
  try simp only [Act.put, List.setIfInBounds_toArray, List.set_cons_zero, List.set_cons_succ]
  refine rg_take 30 (v := ?_) rfl (by kernel_rfl) (by kernel_rfl) (by kernel_rfl) (fun _ _ _ h => h) (by rfl) (by assumption) ?_ ?_
  rotate_left 1
  · (intro w hSw; (try dsimp only at hSw); go_simp; with_reducible rfl)
  try simp only [Act.put, List.setIfInBounds_toArray, List.set_cons_zero, List.set_cons_succ]
  refine rg_take 31 (v := ?_) rfl (by kernel_rfl) (by kernel_rfl) (by kernel_rfl) (fun _ _ _ h => h) (by rfl) (by assumption) ?_ ?_
  rotate_left 1
  · (intro w hSw; (try dsimp only at hSw); go_simp; with_reducible rfl)
  try simp only [Act.put, List.setIfInBounds_toArray, List.set_cons_zero, List.set_cons_succ]
  refine rg_take 32 (v := ?_) rfl (by kernel_rfl) (by kernel_rfl) (by kernel_rfl) (fun _ _ _ h => h) (by rfl) (by assumption) ?_ ?_
  rotate_left 1
  · (intro w hSw; (try dsimp only at hSw); go_simp; with_reducible rfl)
  try simp only [Act.put, List.setIfInBounds_toArray, List.set_cons_zero, List.set_cons_succ]
  refine rg_take 33 (v := ?_) rfl (by kernel_rfl) (by kernel_rfl) (by kernel_rfl) (fun _ _ _ h => h) (by rfl) (by assumption) ?_ ?_
  rotate_left 1
  · (intro w hSw; (try dsimp only at hSw); go_simp; with_reducible rfl)
  try simp only [Act.put, List.setIfInBounds_toArray, List.set_cons_zero, List.set_cons_succ]
  refine rg_take 34 (v := ?_) rfl (by kernel_rfl) (by kernel_rfl) (by kernel_rfl) (fun _ _ _ h => h) (by rfl) (by assumption) ?_ ?_
  rotate_left 1
  · (intro w hSw; (try dsimp only at hSw); go_simp; with_reducible rfl)
  try simp only [Act.put, List.setIfInBounds_toArray, List.set_cons_zero, List.set_cons_succ]
  refine rg_take 35 (v := ?_) rfl (by kernel_rfl) (by kernel_rfl) (by kernel_rfl) (fun _ _ _ h => h) (by rfl) (by assumption) ?_ ?_
  rotate_left 1
  · (intro w hSw; (try dsimp only at hSw); go_simp; with_reducible rfl)
  try simp only [Act.put, List.setIfInBounds_toArray, List.set_cons_zero, List.set_cons_succ]
  refine rg_take 36 (v := ?_) rfl (by kernel_rfl) (by kernel_rfl) (by kernel_rfl) (fun _ _ _ h => h) (by rfl) (by assumption) ?_ ?_
  rotate_left 1
  · (intro w hSw; (try dsimp only at hSw); go_simp; with_reducible rfl)
  try simp only [Act.put, List.setIfInBounds_toArray, List.set_cons_zero, List.set_cons_succ]
  refine rg_take 37 (v := ?_) rfl (by kernel_rfl) (by kernel_rfl) (by kernel_rfl) (fun _ _ _ h => h) (by rfl) (by assumption) ?_ ?_
  rotate_left 1
  · (intro w hSw; (try dsimp only at hSw); go_simp; with_reducible rfl)
  try simp only [Act.put, List.setIfInBounds_toArray, List.set_cons_zero, List.set_cons_succ]
  refine rg_take 38 (v := ?_) rfl (by kernel_rfl) (by kernel_rfl) (by kernel_rfl) (fun _ _ _ h => h) (by rfl) (by assumption) ?_ ?_
  rotate_left 1
  · (intro w hSw; (try dsimp only at hSw); go_simp; with_reducible rfl)
  try simp only [Act.put, List.setIfInBounds_toArray, List.set_cons_zero, List.set_cons_succ]
  refine rg_take 39 (v := ?_) rfl (by kernel_rfl) (by kernel_rfl) (by kernel_rfl) (fun _ _ _ h => h) (by rfl) (by assumption) ?_ ?_
  rotate_left 1
  · (intro w hSw; (try dsimp only at hSw); go_simp; with_reducible rfl)
  try simp only [Act.put, List.setIfInBounds_toArray, List.set_cons_zero, List.set_cons_succ]
  refine rg_take 40 (v := ?_) rfl (by kernel_rfl) (by kernel_rfl) (by kernel_rfl) (fun _ _ _ h => h) (by rfl) (by assumption) ?_ ?_
  rotate_left 1
  · (intro w hSw; (try dsimp only at hSw); go_simp; with_reducible rfl)
  try simp only [Act.put, List.setIfInBounds_toArray, List.set_cons_zero, List.set_cons_succ]
  refine rg_take 41 (v := ?_) rfl (by kernel_rfl) (by kernel_rfl) (by kernel_rfl) (fun _ _ _ h => h) (by rfl) (by assumption) ?_ ?_
  rotate_left 1
  · (intro w hSw; (try dsimp only at hSw); go_simp; with_reducible rfl)
  try simp only [Act.put, List.setIfInBounds_toArray, List.set_cons_zero, List.set_cons_succ]
  refine rg_take 42 (v := ?_) rfl (by kernel_rfl) (by kernel_rfl) (by kernel_rfl) (fun _ _ _ h => h) (by rfl) (by assumption) ?_ ?_
  rotate_left 1
  · (intro w hSw; (try dsimp only at hSw); go_simp; with_reducible rfl)
  try simp only [Act.put, List.setIfInBounds_toArray, List.set_cons_zero, List.set_cons_succ]
  refine rg_take 43 (v := ?_) rfl (by kernel_rfl) (by kernel_rfl) (by kernel_rfl) (fun _ _ _ h => h) (by rfl) (by assumption) ?_ ?_
  rotate_left 1
  · (intro w hSw; (try dsimp only at hSw); go_simp; with_reducible rfl)
  try simp only [Act.put, List.setIfInBounds_toArray, List.set_cons_zero, List.set_cons_succ]
  refine rg_take 44 (v := ?_) rfl (by kernel_rfl) (by kernel_rfl) (by kernel_rfl) (fun _ _ _ h => h) (by rfl) (by assumption) ?_ ?_
  rotate_left 1
  · (intro w hSw; (try dsimp only at hSw); go_simp; with_reducible rfl)
  try simp only [Act.put, List.setIfInBounds_toArray, List.set_cons_zero, List.set_cons_succ]
  refine rg_take 45 (v := ?_) rfl (by kernel_rfl) (by kernel_rfl) (by kernel_rfl) (fun _ _ _ h => h) (by rfl) (by assumption) ?_ ?_
  rotate_left 1
  · (intro w hSw; (try dsimp only at hSw); go_simp; with_reducible rfl)
  try simp only [Act.put, List.setIfInBounds_toArray, List.set_cons_zero, List.set_cons_succ]
  refine wpAnyH_ready (rs := [46]) (by kernel_rfl) (by simp) ?_
  refine rg_step 46 rfl (fun K hK => ?_) (AllReadyH.nil)
  go_simp
  first | (go_at_call 12; refine (nil_info _).mono ?_; rintro _ wn ⟨rfl, hbn⟩; replace hr := below_then hr hbn; clear hbn m0 m1 m2 m3 m4 m5 m6 m7 m8 m9 m10 p0 p1 p2 p3 p4 p5 p6 p7 p8 p9 p10 n0 n1 n2 n3 n4 n5 n6; obtain ⟨⟨m0, m1, m2, m3, m4, m5, m6, m7, m8, m9, m10⟩, -⟩ := cells11' (blk_keep hr hM7); obtain ⟨⟨p0, p1, p2, p3, p4, p5, p6, p7, p8, p9, p10⟩, -⟩ := cells11' (blk_keep hr hP7); obtain ⟨⟨n0, n1, n2, n3, n4, n5, n6⟩, -⟩ := cells7 (blk_keep hr hN7)) | (go_at_call 24; refine (nil_log _).mono ?_; rintro _ wn ⟨rfl, hbn⟩; replace hr := below_then hr hbn; clear hbn m0 m1 m2 m3 m4 m5 m6 m7 m8 m9 m10 p0 p1 p2 p3 p4 p5 p6 p7 p8 p9 p10 n0 n1 n2 n3 n4 n5 n6; obtain ⟨⟨m0, m1, m2, m3, m4, m5, m6, m7, m8, m9, m10⟩, -⟩ := cells11' (blk_keep hr hM7); obtain ⟨⟨p0, p1, p2, p3, p4, p5, p6, p7, p8, p9, p10⟩, -⟩ := cells11' (blk_keep hr hP7); obtain ⟨⟨n0, n1, n2, n3, n4, n5, n6⟩, -⟩ := cells7 (blk_keep hr hN7)) | (go_at_call 10; refine (nil_tick _).mono ?_; rintro _ wn ⟨rfl, hbn⟩; replace hr := below_then hr hbn; clear hbn m0 m1 m2 m3 m4 m5 m6 m7 m8 m9 m10 p0 p1 p2 p3 p4 p5 p6 p7 p8 p9 p10 n0 n1 n2 n3 n4 n5 n6; obtain ⟨⟨m0, m1, m2, m3, m4, m5, m6, m7, m8, m9, m10⟩, -⟩ := cells11' (blk_keep hr hM7); obtain ⟨⟨p0, p1, p2, p3, p4, p5, p6, p7, p8, p9, p10⟩, -⟩ := cells11' (blk_keep hr hP7); obtain ⟨⟨n0, n1, n2, n3, n4, n5, n6⟩, -⟩ := cells7 (blk_keep hr hN7)) | (go_at_call 13; refine (nil_take m vl vd _).mono ?_; rintro _ wn ⟨rfl, hbn⟩; replace hr := below_then hr hbn; clear hbn m0 m1 m2 m3 m4 m5 m6 m7 m8 m9 m10 p0 p1 p2 p3 p4 p5 p6 p7 p8 p9 p10 n0 n1 n2 n3 n4 n5 n6; obtain ⟨⟨m0, m1, m2, m3, m4, m5, m6, m7, m8, m9, m10⟩, -⟩ := cells11' (blk_keep hr hM7); obtain ⟨⟨p0, p1, p2, p3, p4, p5, p6, p7, p8, p9, p10⟩, -⟩ := cells11' (blk_keep hr hP7); obtain ⟨⟨n0, n1, n2, n3, n4, n5, n6⟩, -⟩ := cells7 (blk_keep hr hN7)) | (go_at_call 25; refine (nil_one _).mono ?_; rintro _ wn ⟨rfl, hbn⟩; replace hr := below_then hr hbn; clear hbn m0 m1 m2 m3 m4 m5 m6 m7 m8 m9 m10 p0 p1 p2 p3 p4 p5 p6 p7 p8 p9 p10 n0 n1 n2 n3 n4 n5 n6; obtain ⟨⟨m0, m1, m2, m3, m4, m5, m6, m7, m8, m9, m10⟩, -⟩ := cells11' (blk_keep hr hM7); obtain ⟨⟨p0, p1, p2, p3, p4, p5, p6, p7, p8, p9, p10⟩, -⟩ := cells11' (blk_keep hr hP7); obtain ⟨⟨n0, n1, n2, n3, n4, n5, n6⟩, -⟩ := cells7 (blk_keep hr hN7)) | (go_at_call 20; refine (nil_floor _ _).mono ?_; rintro _ wn ⟨rfl, hbn⟩; replace hr := below_then hr hbn; clear hbn m0 m1 m2 m3 m4 m5 m6 m7 m8 m9 m10 p0 p1 p2 p3 p4 p5 p6 p7 p8 p9 p10 n0 n1 n2 n3 n4 n5 n6; obtain ⟨⟨m0, m1, m2, m3, m4, m5, m6, m7, m8, m9, m10⟩, -⟩ := cells11' (blk_keep hr hM7); obtain ⟨⟨p0, p1, p2, p3, p4, p5, p6, p7, p8, p9, p10⟩, -⟩ := cells11' (blk_keep hr hP7); obtain ⟨⟨n0, n1, n2, n3, n4, n5, n6⟩, -⟩ := cells7 (blk_keep hr hN7)) | (go_at_call 26; refine (nil_lacking _).mono ?_; rintro _ wn ⟨rfl, hbn⟩; replace hr := below_then hr hbn; clear hbn m0 m1 m2 m3 m4 m5 m6 m7 m8 m9 m10 p0 p1 p2 p3 p4 p5 p6 p7 p8 p9 p10 n0 n1 n2 n3 n4 n5 n6; obtain ⟨⟨m0, m1, m2, m3, m4, m5, m6, m7, m8, m9, m10⟩, -⟩ := cells11' (blk_keep hr hM7); obtain ⟨⟨p0, p1, p2, p3, p4, p5, p6, p7, p8, p9, p10⟩, -⟩ := cells11' (blk_keep hr hP7); obtain ⟨⟨n0, n1, n2, n3, n4, n5, n6⟩, -⟩ := cells7 (blk_keep hr hN7)) | (go_at_call 27; refine (nil_parts _).mono ?_; rintro _ wn ⟨rfl, hbn⟩; replace hr := below_then hr hbn; clear hbn m0 m1 m2 m3 m4 m5 m6 m7 m8 m9 m10 p0 p1 p2 p3 p4 p5 p6 p7 p8 p9 p10 n0 n1 n2 n3 n4 n5 n6; obtain ⟨⟨m0, m1, m2, m3, m4, m5, m6, m7, m8, m9, m10⟩, -⟩ := cells11' (blk_keep hr hM7); obtain ⟨⟨p0, p1, p2, p3, p4, p5, p6, p7, p8, p9, p10⟩, -⟩ := cells11' (blk_keep hr hP7); obtain ⟨⟨n0, n1, n2, n3, n4, n5, n6⟩, -⟩ := cells7 (blk_keep hr hN7)) | (go_at_call 7; refine (HK.out _).mono ?_; rintro _ wn ⟨rfl, hbn⟩; replace hr := below_then hr hbn; clear hbn m0 m1 m2 m3 m4 m5 m6 m7 m8 m9 m10 p0 p1 p2 p3 p4 p5 p6 p7 p8 p9 p10 n0 n1 n2 n3 n4 n5 n6; obtain ⟨⟨m0, m1, m2, m3, m4, m5, m6, m7, m8, m9, m10⟩, -⟩ := cells11' (blk_keep hr hM7); obtain ⟨⟨p0, p1, p2, p3, p4, p5, p6, p7, p8, p9, p10⟩, -⟩ := cells11' (blk_keep hr hP7); obtain ⟨⟨n0, n1, n2, n3, n4, n5, n6⟩, -⟩ := cells7 (blk_keep hr hN7))
  go_wp2_with fail
  refine hK.out _ _ ?_ ?_
  · ((try dsimp only); first | exact ⟨m0, m1, m2, m3, m4, m5, m6, m7, m8, m9, m10, p0, p1, p2, p3, p4, p5, p6, p7, p8, p9, p10, n0, n1, n2, n3, n4, n5, n6⟩ | go_keep)
  clear hHeld hK K
  intro hHeld
  try simp only [Act.put, List.setIfInBounds_toArray, List.set_cons_zero, List.set_cons_succ]
  refine rg_take 47 (v := ?_) rfl (by kernel_rfl) (by kernel_rfl) (by kernel_rfl) (fun _ _ _ h => h) (by rfl) (by assumption) ?_ ?_
  rotate_left 1
  · (intro w hSw; (try dsimp only at hSw); go_simp; with_reducible rfl)
  try simp only [Act.put, List.setIfInBounds_toArray, List.set_cons_zero, List.set_cons_succ]
  refine rg_take 48 (v := ?_) rfl (by kernel_rfl) (by kernel_rfl) (by kernel_rfl) (fun _ _ _ h => h) (by rfl) (by assumption) ?_ ?_
  rotate_left 1
  · (intro w hSw; (try dsimp only at hSw); go_simp; with_reducible rfl)
  try simp only [Act.put, List.setIfInBounds_toArray, List.set_cons_zero, List.set_cons_succ]
  refine rg_take 49 (v := ?_) rfl (by kernel_rfl) (by kernel_rfl) (by kernel_rfl) (fun _ _ _ h => h) (by rfl) (by assumption) ?_ ?_
  rotate_left 1
  · (intro w hSw; (try dsimp only at hSw); go_simp; with_reducible rfl)
  try simp only [Act.put, List.setIfInBounds_toArray, List.set_cons_zero, List.set_cons_succ]
  refine rg_take 50 (v := ?_) rfl (by kernel_rfl) (by kernel_rfl) (by kernel_rfl) (fun _ _ _ h => h) (by rfl) (by assumption) ?_ ?_
  rotate_left 1
  · (intro w hSw; (try dsimp only at hSw); go_simp; with_reducible rfl)
  try simp only [Act.put, List.setIfInBounds_toArray, List.set_cons_zero, List.set_cons_succ]
  refine rg_take 51 (v := ?_) rfl (by kernel_rfl) (by kernel_rfl) (by kernel_rfl) (fun _ _ _ h => h) (by rfl) (by assumption) ?_ ?_
  rotate_left 1
  · (intro w hSw; (try dsimp only at hSw); go_simp; with_reducible rfl)
  try simp only [Act.put, List.setIfInBounds_toArray, List.set_cons_zero, List.set_cons_succ]
  refine rg_take 52 (v := ?_) rfl (by kernel_rfl) (by kernel_rfl) (by kernel_rfl) (fun _ _ _ h => h) (by rfl) (by assumption) ?_ ?_
  rotate_left 1
  · (intro w hSw; (try dsimp only at hSw); go_simp; with_reducible rfl)
  try simp only [Act.put, List.setIfInBounds_toArray, List.set_cons_zero, List.set_cons_succ]
  refine rg_take 53 (v := ?_) rfl (by kernel_rfl) (by kernel_rfl) (by kernel_rfl) (fun _ _ _ h => h) (by rfl) (by assumption) ?_ ?_
  rotate_left 1
  · (intro w hSw; (try dsimp only at hSw); go_simp; with_reducible rfl)
  try simp only [Act.put, List.setIfInBounds_toArray, List.set_cons_zero, List.set_cons_succ]
  refine rg_take 54 (v := ?_) rfl (by kernel_rfl) (by kernel_rfl) (by kernel_rfl) (fun _ _ _ h => h) (by rfl) (by assumption) ?_ ?_
  rotate_left 1
  · (intro w hSw; (try dsimp only at hSw); go_simp; with_reducible rfl)
  try simp only [Act.put, List.setIfInBounds_toArray, List.set_cons_zero, List.set_cons_succ]
  refine rg_take 55 (v := ?_) rfl (by kernel_rfl) (by kernel_rfl) (by kernel_rfl) (fun _ _ _ h => h) (by rfl) (by assumption) ?_ ?_
  rotate_left 1
  · (intro w hSw; (try dsimp only at hSw); go_simp; with_reducible rfl)
  try simp only [Act.put, List.setIfInBounds_toArray, List.set_cons_zero, List.set_cons_succ]
  refine rg_take 56 (v := ?_) rfl (by kernel_rfl) (by kernel_rfl) (by kernel_rfl) (fun _ _ _ h => h) (by rfl) (by assumption) ?_ ?_
  rotate_left 1
  · (intro w hSw; (try dsimp only at hSw); go_simp; with_reducible rfl)
  try simp only [Act.put, List.setIfInBounds_toArray, List.set_cons_zero, List.set_cons_succ]
  refine rg_take 57 (v := ?_) rfl (by kernel_rfl) (by kernel_rfl) (by kernel_rfl) (fun _ _ _ h => h) (by rfl) (by assumption) ?_ ?_
  rotate_left 1
  · (intro w hSw; (try dsimp only at hSw); go_simp; with_reducible rfl)
  try simp only [Act.put, List.setIfInBounds_toArray, List.set_cons_zero, List.set_cons_succ]
  refine rg_take 58 (v := ?_) rfl (by kernel_rfl) (by kernel_rfl) (by kernel_rfl) (fun _ _ _ h => h) (by rfl) (by assumption) ?_ ?_
  rotate_left 1
  · (intro w hSw; (try dsimp only at hSw); go_simp; with_reducible rfl)
  try simp only [Act.put, List.setIfInBounds_toArray, List.set_cons_zero, List.set_cons_succ]
  refine rg_take 59 (v := ?_) rfl (by kernel_rfl) (by kernel_rfl) (by kernel_rfl) (fun _ _ _ h => h) (by rfl) (by assumption) ?_ ?_
  rotate_left 1
  · (intro w hSw; (try dsimp only at hSw); go_simp; with_reducible rfl)
  try simp only [Act.put, List.setIfInBounds_toArray, List.set_cons_zero, List.set_cons_succ]
  refine rg_take 60 (v := ?_) rfl (by kernel_rfl) (by kernel_rfl) (by kernel_rfl) (fun _ _ _ h => h) (by rfl) (by assumption) ?_ ?_
  rotate_left 1
  · (intro w hSw; (try dsimp only at hSw); go_simp; with_reducible rfl)
  try simp only [Act.put, List.setIfInBounds_toArray, List.set_cons_zero, List.set_cons_succ]
  refine rg_take 61 (v := ?_) rfl (by kernel_rfl) (by kernel_rfl) (by kernel_rfl) (fun _ _ _ h => h) (by rfl) (by assumption) ?_ ?_
  rotate_left 1
  · (intro w hSw; (try dsimp only at hSw); go_simp; with_reducible rfl)
  try simp only [Act.put, List.setIfInBounds_toArray, List.set_cons_zero, List.set_cons_succ]
  refine rg_take 62 (v := ?_) rfl (by kernel_rfl) (by kernel_rfl) (by kernel_rfl) (fun _ _ _ h => h) (by rfl) (by assumption) ?_ ?_
  rotate_left 1
  · (intro w hSw; (try dsimp only at hSw); go_simp; with_reducible rfl)
  try simp only [Act.put, List.setIfInBounds_toArray, List.set_cons_zero, List.set_cons_succ]
  refine wpAnyH_ready (rs := [63]) (by kernel_rfl) (by simp) ?_
  refine rg_step 63 rfl (fun K hK => ?_) (AllReadyH.nil)
  go_simp
  first | (go_at_call 12; refine (nil_info _).mono ?_; rintro _ wn ⟨rfl, hbn⟩; replace hr := below_then hr hbn; clear hbn m0 m1 m2 m3 m4 m5 m6 m7 m8 m9 m10 p0 p1 p2 p3 p4 p5 p6 p7 p8 p9 p10 n0 n1 n2 n3 n4 n5 n6; obtain ⟨⟨m0, m1, m2, m3, m4, m5, m6, m7, m8, m9, m10⟩, -⟩ := cells11' (blk_keep hr hM7); obtain ⟨⟨p0, p1, p2, p3, p4, p5, p6, p7, p8, p9, p10⟩, -⟩ := cells11' (blk_keep hr hP7); obtain ⟨⟨n0, n1, n2, n3, n4, n5, n6⟩, -⟩ := cells7 (blk_keep hr hN7)) | (go_at_call 24; refine (nil_log _).mono ?_; rintro _ wn ⟨rfl, hbn⟩; replace hr := below_then hr hbn; clear hbn m0 m1 m2 m3 m4 m5 m6 m7 m8 m9 m10 p0 p1 p2 p3 p4 p5 p6 p7 p8 p9 p10 n0 n1 n2 n3 n4 n5 n6; obtain ⟨⟨m0, m1, m2, m3, m4, m5, m6, m7, m8, m9, m10⟩, -⟩ := cells11' (blk_keep hr hM7); obtain ⟨⟨p0, p1, p2, p3, p4, p5, p6, p7, p8, p9, p10⟩, -⟩ := cells11' (blk_keep hr hP7); obtain ⟨⟨n0, n1, n2, n3, n4, n5, n6⟩, -⟩ := cells7 (blk_keep hr hN7)) | (go_at_call 10; refine (nil_tick _).mono ?_; rintro _ wn ⟨rfl, hbn⟩; replace hr := below_then hr hbn; clear hbn m0 m1 m2 m3 m4 m5 m6 m7 m8 m9 m10 p0 p1 p2 p3 p4 p5 p6 p7 p8 p9 p10 n0 n1 n2 n3 n4 n5 n6; obtain ⟨⟨m0, m1, m2, m3, m4, m5, m6, m7, m8, m9, m10⟩, -⟩ := cells11' (blk_keep hr hM7); obtain ⟨⟨p0, p1, p2, p3, p4, p5, p6, p7, p8, p9, p10⟩, -⟩ := cells11' (blk_keep hr hP7); obtain ⟨⟨n0, n1, n2, n3, n4, n5, n6⟩, -⟩ := cells7 (blk_keep hr hN7)) | (go_at_call 13; refine (nil_take m vl vd _).mono ?_; rintro _ wn ⟨rfl, hbn⟩; replace hr := below_then hr hbn; clear hbn m0 m1 m2 m3 m4 m5 m6 m7 m8 m9 m10 p0 p1 p2 p3 p4 p5 p6 p7 p8 p9 p10 n0 n1 n2 n3 n4 n5 n6; obtain ⟨⟨m0, m1, m2, m3, m4, m5, m6, m7, m8, m9, m10⟩, -⟩ := cells11' (blk_keep hr hM7); obtain ⟨⟨p0, p1, p2, p3, p4, p5, p6, p7, p8, p9, p10⟩, -⟩ := cells11' (blk_keep hr hP7); obtain ⟨⟨n0, n1, n2, n3, n4, n5, n6⟩, -⟩ := cells7 (blk_keep hr hN7)) | (go_at_call 25; refine (nil_one _).mono ?_; rintro _ wn ⟨rfl, hbn⟩; replace hr := below_then hr hbn; clear hbn m0 m1 m2 m3 m4 m5 m6 m7 m8 m9 m10 p0 p1 p2 p3 p4 p5 p6 p7 p8 p9 p10 n0 n1 n2 n3 n4 n5 n6; obtain ⟨⟨m0, m1, m2, m3, m4, m5, m6, m7, m8, m9, m10⟩, -⟩ := cells11' (blk_keep hr hM7); obtain ⟨⟨p0, p1, p2, p3, p4, p5, p6, p7, p8, p9, p10⟩, -⟩ := cells11' (blk_keep hr hP7); obtain ⟨⟨n0, n1, n2, n3, n4, n5, n6⟩, -⟩ := cells7 (blk_keep hr hN7)) | (go_at_call 20; refine (nil_floor _ _).mono ?_; rintro _ wn ⟨rfl, hbn⟩; replace hr := below_then hr hbn; clear hbn m0 m1 m2 m3 m4 m5 m6 m7 m8 m9 m10 p0 p1 p2 p3 p4 p5 p6 p7 p8 p9 p10 n0 n1 n2 n3 n4 n5 n6; obtain ⟨⟨m0, m1, m2, m3, m4, m5, m6, m7, m8, m9, m10⟩, -⟩ := cells11' (blk_keep hr hM7); obtain ⟨⟨p0, p1, p2, p3, p4, p5, p6, p7, p8, p9, p10⟩, -⟩ := cells11' (blk_keep hr hP7); obtain ⟨⟨n0, n1, n2, n3, n4, n5, n6⟩, -⟩ := cells7 (blk_keep hr hN7)) | (go_at_call 26; refine (nil_lacking _).mono ?_; rintro _ wn ⟨rfl, hbn⟩; replace hr := below_then hr hbn; clear hbn m0 m1 m2 m3 m4 m5 m6 m7 m8 m9 m10 p0 p1 p2 p3 p4 p5 p6 p7 p8 p9 p10 n0 n1 n2 n3 n4 n5 n6; obtain ⟨⟨m0, m1, m2, m3, m4, m5, m6, m7, m8, m9, m10⟩, -⟩ := cells11' (blk_keep hr hM7); obtain ⟨⟨p0, p1, p2, p3, p4, p5, p6, p7, p8, p9, p10⟩, -⟩ := cells11' (blk_keep hr hP7); obtain ⟨⟨n0, n1, n2, n3, n4, n5, n6⟩, -⟩ := cells7 (blk_keep hr hN7)) | (go_at_call 27; refine (nil_parts _).mono ?_; rintro _ wn ⟨rfl, hbn⟩; replace hr := below_then hr hbn; clear hbn m0 m1 m2 m3 m4 m5 m6 m7 m8 m9 m10 p0 p1 p2 p3 p4 p5 p6 p7 p8 p9 p10 n0 n1 n2 n3 n4 n5 n6; obtain ⟨⟨m0, m1, m2, m3, m4, m5, m6, m7, m8, m9, m10⟩, -⟩ := cells11' (blk_keep hr hM7); obtain ⟨⟨p0, p1, p2, p3, p4, p5, p6, p7, p8, p9, p10⟩, -⟩ := cells11' (blk_keep hr hP7); obtain ⟨⟨n0, n1, n2, n3, n4, n5, n6⟩, -⟩ := cells7 (blk_keep hr hN7)) | (go_at_call 7; refine (HK.out _).mono ?_; rintro _ wn ⟨rfl, hbn⟩; replace hr := below_then hr hbn; clear hbn m0 m1 m2 m3 m4 m5 m6 m7 m8 m9 m10 p0 p1 p2 p3 p4 p5 p6 p7 p8 p9 p10 n0 n1 n2 n3 n4 n5 n6; obtain ⟨⟨m0, m1, m2, m3, m4, m5, m6, m7, m8, m9, m10⟩, -⟩ := cells11' (blk_keep hr hM7); obtain ⟨⟨p0, p1, p2, p3, p4, p5, p6, p7, p8, p9, p10⟩, -⟩ := cells11' (blk_keep hr hP7); obtain ⟨⟨n0, n1, n2, n3, n4, n5, n6⟩, -⟩ := cells7 (blk_keep hr hN7))
  go_wp2_with fail
  refine hK.out _ _ ?_ ?_
  · ((try dsimp only); first | exact ⟨m0, m1, m2, m3, m4, m5, m6, m7, m8, m9, m10, p0, p1, p2, p3, p4, p5, p6, p7, p8, p9, p10, n0, n1, n2, n3, n4, n5, n6⟩ | go_keep)
  clear hHeld hK K
  intro hHeld
  try simp only [Act.put, List.setIfInBounds_toArray, List.set_cons_zero, List.set_cons_succ]
  refine rg_take 64 (v := ?_) rfl (by kernel_rfl) (by kernel_rfl) (by kernel_rfl) (fun _ _ _ h => h) (by rfl) (by assumption) ?_ ?_
  rotate_left 1
  · (intro w hSw; (try dsimp only at hSw); go_simp; with_reducible rfl)
  try simp only [Act.put, List.setIfInBounds_toArray, List.set_cons_zero, List.set_cons_succ]
  refine rg_take 65 (v := ?_) rfl (by kernel_rfl) (by kernel_rfl) (by kernel_rfl) (fun _ _ _ h => h) (by rfl) (by assumption) ?_ ?_
  rotate_left 1
  · (intro w hSw; (try dsimp only at hSw); go_simp; with_reducible rfl)
  try simp only [Act.put, List.setIfInBounds_toArray, List.set_cons_zero, List.set_cons_succ]
  refine rg_take 66 (v := ?_) rfl (by kernel_rfl) (by kernel_rfl) (by kernel_rfl) (fun _ _ _ h => h) (by rfl) (by assumption) ?_ ?_
  rotate_left 1
  · (intro w hSw; (try dsimp only at hSw); go_simp; with_reducible rfl)
  try simp only [Act.put, List.setIfInBounds_toArray, List.set_cons_zero, List.set_cons_succ]
  refine rg_take 67 (v := ?_) rfl (by kernel_rfl) (by kernel_rfl) (by kernel_rfl) (fun _ _ _ h => h) (by rfl) (by assumption) ?_ ?_
  rotate_left 1
  · (intro w hSw; (try dsimp only at hSw); go_simp; with_reducible rfl)
  try simp only [Act.put, List.setIfInBounds_toArray, List.set_cons_zero, List.set_cons_succ]
  refine wpAnyH_ready (rs := [68]) (by kernel_rfl) (by simp) ?_
  refine rg_step 68 rfl (fun K hK => ?_) (AllReadyH.nil)
  go_simp
  first | (go_at_call 12; refine (nil_info _).mono ?_; rintro _ wn ⟨rfl, hbn⟩; replace hr := below_then hr hbn; clear hbn m0 m1 m2 m3 m4 m5 m6 m7 m8 m9 m10 p0 p1 p2 p3 p4 p5 p6 p7 p8 p9 p10 n0 n1 n2 n3 n4 n5 n6; obtain ⟨⟨m0, m1, m2, m3, m4, m5, m6, m7, m8, m9, m10⟩, -⟩ := cells11' (blk_keep hr hM7); obtain ⟨⟨p0, p1, p2, p3, p4, p5, p6, p7, p8, p9, p10⟩, -⟩ := cells11' (blk_keep hr hP7); obtain ⟨⟨n0, n1, n2, n3, n4, n5, n6⟩, -⟩ := cells7 (blk_keep hr hN7)) | (go_at_call 24; refine (nil_log _).mono ?_; rintro _ wn ⟨rfl, hbn⟩; replace hr := below_then hr hbn; clear hbn m0 m1 m2 m3 m4 m5 m6 m7 m8 m9 m10 p0 p1 p2 p3 p4 p5 p6 p7 p8 p9 p10 n0 n1 n2 n3 n4 n5 n6; obtain ⟨⟨m0, m1, m2, m3, m4, m5, m6, m7, m8, m9, m10⟩, -⟩ := cells11' (blk_keep hr hM7); obtain ⟨⟨p0, p1, p2, p3, p4, p5, p6, p7, p8, p9, p10⟩, -⟩ := cells11' (blk_keep hr hP7); obtain ⟨⟨n0, n1, n2, n3, n4, n5, n6⟩, -⟩ := cells7 (blk_keep hr hN7)) | (go_at_call 10; refine (nil_tick _).mono ?_; rintro _ wn ⟨rfl, hbn⟩; replace hr := below_then hr hbn; clear hbn m0 m1 m2 m3 m4 m5 m6 m7 m8 m9 m10 p0 p1 p2 p3 p4 p5 p6 p7 p8 p9 p10 n0 n1 n2 n3 n4 n5 n6; obtain ⟨⟨m0, m1, m2, m3, m4, m5, m6, m7, m8, m9, m10⟩, -⟩ := cells11' (blk_keep hr hM7); obtain ⟨⟨p0, p1, p2, p3, p4, p5, p6, p7, p8, p9, p10⟩, -⟩ := cells11' (blk_keep hr hP7); obtain ⟨⟨n0, n1, n2, n3, n4, n5, n6⟩, -⟩ := cells7 (blk_keep hr hN7)) | (go_at_call 13; refine (nil_take m vl vd _).mono ?_; rintro _ wn ⟨rfl, hbn⟩; replace hr := below_then hr hbn; clear hbn m0 m1 m2 m3 m4 m5 m6 m7 m8 m9 m10 p0 p1 p2 p3 p4 p5 p6 p7 p8 p9 p10 n0 n1 n2 n3 n4 n5 n6; obtain ⟨⟨m0, m1, m2, m3, m4, m5, m6, m7, m8, m9, m10⟩, -⟩ := cells11' (blk_keep hr hM7); obtain ⟨⟨p0, p1, p2, p3, p4, p5, p6, p7, p8, p9, p10⟩, -⟩ := cells11' (blk_keep hr hP7); obtain ⟨⟨n0, n1, n2, n3, n4, n5, n6⟩, -⟩ := cells7 (blk_keep hr hN7)) | (go_at_call 25; refine (nil_one _).mono ?_; rintro _ wn ⟨rfl, hbn⟩; replace hr := below_then hr hbn; clear hbn m0 m1 m2 m3 m4 m5 m6 m7 m8 m9 m10 p0 p1 p2 p3 p4 p5 p6 p7 p8 p9 p10 n0 n1 n2 n3 n4 n5 n6; obtain ⟨⟨m0, m1, m2, m3, m4, m5, m6, m7, m8, m9, m10⟩, -⟩ := cells11' (blk_keep hr hM7); obtain ⟨⟨p0, p1, p2, p3, p4, p5, p6, p7, p8, p9, p10⟩, -⟩ := cells11' (blk_keep hr hP7); obtain ⟨⟨n0, n1, n2, n3, n4, n5, n6⟩, -⟩ := cells7 (blk_keep hr hN7)) | (go_at_call 20; refine (nil_floor _ _).mono ?_; rintro _ wn ⟨rfl, hbn⟩; replace hr := below_then hr hbn; clear hbn m0 m1 m2 m3 m4 m5 m6 m7 m8 m9 m10 p0 p1 p2 p3 p4 p5 p6 p7 p8 p9 p10 n0 n1 n2 n3 n4 n5 n6; obtain ⟨⟨m0, m1, m2, m3, m4, m5, m6, m7, m8, m9, m10⟩, -⟩ := cells11' (blk_keep hr hM7); obtain ⟨⟨p0, p1, p2, p3, p4, p5, p6, p7, p8, p9, p10⟩, -⟩ := cells11' (blk_keep hr hP7); obtain ⟨⟨n0, n1, n2, n3, n4, n5, n6⟩, -⟩ := cells7 (blk_keep hr hN7)) | (go_at_call 26; refine (nil_lacking _).mono ?_; rintro _ wn ⟨rfl, hbn⟩; replace hr := below_then hr hbn; clear hbn m0 m1 m2 m3 m4 m5 m6 m7 m8 m9 m10 p0 p1 p2 p3 p4 p5 p6 p7 p8 p9 p10 n0 n1 n2 n3 n4 n5 n6; obtain ⟨⟨m0, m1, m2, m3, m4, m5, m6, m7, m8, m9, m10⟩, -⟩ := cells11' (blk_keep hr hM7); obtain ⟨⟨p0, p1, p2, p3, p4, p5, p6, p7, p8, p9, p10⟩, -⟩ := cells11' (blk_keep hr hP7); obtain ⟨⟨n0, n1, n2, n3, n4, n5, n6⟩, -⟩ := cells7 (blk_keep hr hN7)) | (go_at_call 27; refine (nil_parts _).mono ?_; rintro _ wn ⟨rfl, hbn⟩; replace hr := below_then hr hbn; clear hbn m0 m1 m2 m3 m4 m5 m6 m7 m8 m9 m10 p0 p1 p2 p3 p4 p5 p6 p7 p8 p9 p10 n0 n1 n2 n3 n4 n5 n6; obtain ⟨⟨m0, m1, m2, m3, m4, m5, m6, m7, m8, m9, m10⟩, -⟩ := cells11' (blk_keep hr hM7); obtain ⟨⟨p0, p1, p2, p3, p4, p5, p6, p7, p8, p9, p10⟩, -⟩ := cells11' (blk_keep hr hP7); obtain ⟨⟨n0, n1, n2, n3, n4, n5, n6⟩, -⟩ := cells7 (blk_keep hr hN7)) | (go_at_call 7; refine (HK.out _).mono ?_; rintro _ wn ⟨rfl, hbn⟩; replace hr := below_then hr hbn; clear hbn m0 m1 m2 m3 m4 m5 m6 m7 m8 m9 m10 p0 p1 p2 p3 p4 p5 p6 p7 p8 p9 p10 n0 n1 n2 n3 n4 n5 n6; obtain ⟨⟨m0, m1, m2, m3, m4, m5, m6, m7, m8, m9, m10⟩, -⟩ := cells11' (blk_keep hr hM7); obtain ⟨⟨p0, p1, p2, p3, p4, p5, p6, p7, p8, p9, p10⟩, -⟩ := cells11' (blk_keep hr hP7); obtain ⟨⟨n0, n1, n2, n3, n4, n5, n6⟩, -⟩ := cells7 (blk_keep hr hN7))
  go_wp2_with fail
  refine hK.out _ _ ?_ ?_
  · ((try dsimp only); first | exact ⟨m0, m1, m2, m3, m4, m5, m6, m7, m8, m9, m10, p0, p1, p2, p3, p4, p5, p6, p7, p8, p9, p10, n0, n1, n2, n3, n4, n5, n6⟩ | go_keep)
  clear hHeld hK K
  intro hHeld
  try simp only [Act.put, List.setIfInBounds_toArray, List.set_cons_zero, List.set_cons_succ]
  refine rg_take 69 (v := ?_) rfl (by kernel_rfl) (by kernel_rfl) (by kernel_rfl) (fun _ _ _ h => h) (by rfl) (by assumption) ?_ ?_
  rotate_left 1
  · (intro w hSw; (try dsimp only at hSw); go_simp; with_reducible rfl)
  try simp only [Act.put, List.setIfInBounds_toArray, List.set_cons_zero, List.set_cons_succ]
  refine rg_take 70 (v := ?_) rfl (by kernel_rfl) (by kernel_rfl) (by kernel_rfl) (fun _ _ _ h => h) (by rfl) (by assumption) ?_ ?_
  rotate_left 1
  · (intro w hSw; (try dsimp only at hSw); go_simp; with_reducible rfl)
  try simp only [Act.put, List.setIfInBounds_toArray, List.set_cons_zero, List.set_cons_succ]
  refine rg_take 71 (v := ?_) rfl (by kernel_rfl) (by kernel_rfl) (by kernel_rfl) (fun _ _ _ h => h) (by rfl) (by assumption) ?_ ?_
  rotate_left 1
  · (intro w hSw; (try dsimp only at hSw); go_simp; with_reducible rfl)
  try simp only [Act.put, List.setIfInBounds_toArray, List.set_cons_zero, List.set_cons_succ]
  refine rg_take 72 (v := ?_) rfl (by kernel_rfl) (by kernel_rfl) (by kernel_rfl) (fun _ _ _ h => h) (by rfl) (by assumption) ?_ ?_
  rotate_left 1
  · (intro w hSw; (try dsimp only at hSw); go_simp; with_reducible rfl)
  try simp only [Act.put, List.setIfInBounds_toArray, List.set_cons_zero, List.set_cons_succ]
  refine rg_take 73 (v := ?_) rfl (by kernel_rfl) (by kernel_rfl) (by kernel_rfl) (fun _ _ _ h => h) (by rfl) (by assumption) ?_ ?_
  rotate_left 1
  · (intro w hSw; (try dsimp only at hSw); go_simp; with_reducible rfl)
  try simp only [Act.put, List.setIfInBounds_toArray, List.set_cons_zero, List.set_cons_succ]
  refine wpAnyH_ready (rs := [74]) (by kernel_rfl) (by simp) ?_
  refine rg_step 74 rfl (fun K hK => ?_) (AllReadyH.nil)
  go_simp
  first | (go_at_call 12; refine (nil_info _).mono ?_; rintro _ wn ⟨rfl, hbn⟩; replace hr := below_then hr hbn; clear hbn m0 m1 m2 m3 m4 m5 m6 m7 m8 m9 m10 p0 p1 p2 p3 p4 p5 p6 p7 p8 p9 p10 n0 n1 n2 n3 n4 n5 n6; obtain ⟨⟨m0, m1, m2, m3, m4, m5, m6, m7, m8, m9, m10⟩, -⟩ := cells11' (blk_keep hr hM7); obtain ⟨⟨p0, p1, p2, p3, p4, p5, p6, p7, p8, p9, p10⟩, -⟩ := cells11' (blk_keep hr hP7); obtain ⟨⟨n0, n1, n2, n3, n4, n5, n6⟩, -⟩ := cells7 (blk_keep hr hN7)) | (go_at_call 24; refine (nil_log _).mono ?_; rintro _ wn ⟨rfl, hbn⟩; replace hr := below_then hr hbn; clear hbn m0 m1 m2 m3 m4 m5 m6 m7 m8 m9 m10 p0 p1 p2 p3 p4 p5 p6 p7 p8 p9 p10 n0 n1 n2 n3 n4 n5 n6; obtain ⟨⟨m0, m1, m2, m3, m4, m5, m6, m7, m8, m9, m10⟩, -⟩ := cells11' (blk_keep hr hM7); obtain ⟨⟨p0, p1, p2, p3, p4, p5, p6, p7, p8, p9, p10⟩, -⟩ := cells11' (blk_keep hr hP7); obtain ⟨⟨n0, n1, n2, n3, n4, n5, n6⟩, -⟩ := cells7 (blk_keep hr hN7)) | (go_at_call 10; refine (nil_tick _).mono ?_; rintro _ wn ⟨rfl, hbn⟩; replace hr := below_then hr hbn; clear hbn m0 m1 m2 m3 m4 m5 m6 m7 m8 m9 m10 p0 p1 p2 p3 p4 p5 p6 p7 p8 p9 p10 n0 n1 n2 n3 n4 n5 n6; obtain ⟨⟨m0, m1, m2, m3, m4, m5, m6, m7, m8, m9, m10⟩, -⟩ := cells11' (blk_keep hr hM7); obtain ⟨⟨p0, p1, p2, p3, p4, p5, p6, p7, p8, p9, p10⟩, -⟩ := cells11' (blk_keep hr hP7); obtain ⟨⟨n0, n1, n2, n3, n4, n5, n6⟩, -⟩ := cells7 (blk_keep hr hN7)) | (go_at_call 13; refine (nil_take m vl vd _).mono ?_; rintro _ wn ⟨rfl, hbn⟩; replace hr := below_then hr hbn; clear hbn m0 m1 m2 m3 m4 m5 m6 m7 m8 m9 m10 p0 p1 p2 p3 p4 p5 p6 p7 p8 p9 p10 n0 n1 n2 n3 n4 n5 n6; obtain ⟨⟨m0, m1, m2, m3, m4, m5, m6, m7, m8, m9, m10⟩, -⟩ := cells11' (blk_keep hr hM7); obtain ⟨⟨p0, p1, p2, p3, p4, p5, p6, p7, p8, p9, p10⟩, -⟩ := cells11' (blk_keep hr hP7); obtain ⟨⟨n0, n1, n2, n3, n4, n5, n6⟩, -⟩ := cells7 (blk_keep hr hN7)) | (go_at_call 25; refine (nil_one _).mono ?_; rintro _ wn ⟨rfl, hbn⟩; replace hr := below_then hr hbn; clear hbn m0 m1 m2 m3 m4 m5 m6 m7 m8 m9 m10 p0 p1 p2 p3 p4 p5 p6 p7 p8 p9 p10 n0 n1 n2 n3 n4 n5 n6; obtain ⟨⟨m0, m1, m2, m3, m4, m5, m6, m7, m8, m9, m10⟩, -⟩ := cells11' (blk_keep hr hM7); obtain ⟨⟨p0, p1, p2, p3, p4, p5, p6, p7, p8, p9, p10⟩, -⟩ := cells11' (blk_keep hr hP7); obtain ⟨⟨n0, n1, n2, n3, n4, n5, n6⟩, -⟩ := cells7 (blk_keep hr hN7)) | (go_at_call 20; refine (nil_floor _ _).mono ?_; rintro _ wn ⟨rfl, hbn⟩; replace hr := below_then hr hbn; clear hbn m0 m1 m2 m3 m4 m5 m6 m7 m8 m9 m10 p0 p1 p2 p3 p4 p5 p6 p7 p8 p9 p10 n0 n1 n2 n3 n4 n5 n6; obtain ⟨⟨m0, m1, m2, m3, m4, m5, m6, m7, m8, m9, m10⟩, -⟩ := cells11' (blk_keep hr hM7); obtain ⟨⟨p0, p1, p2, p3, p4, p5, p6, p7, p8, p9, p10⟩, -⟩ := cells11' (blk_keep hr hP7); obtain ⟨⟨n0, n1, n2, n3, n4, n5, n6⟩, -⟩ := cells7 (blk_keep hr hN7)) | (go_at_call 26; refine (nil_lacking _).mono ?_; rintro _ wn ⟨rfl, hbn⟩; replace hr := below_then hr hbn; clear hbn m0 m1 m2 m3 m4 m5 m6 m7 m8 m9 m10 p0 p1 p2 p3 p4 p5 p6 p7 p8 p9 p10 n0 n1 n2 n3 n4 n5 n6; obtain ⟨⟨m0, m1, m2, m3, m4, m5, m6, m7, m8, m9, m10⟩, -⟩ := cells11' (blk_keep hr hM7); obtain ⟨⟨p0, p1, p2, p3, p4, p5, p6, p7, p8, p9, p10⟩, -⟩ := cells11' (blk_keep hr hP7); obtain ⟨⟨n0, n1, n2, n3, n4, n5, n6⟩, -⟩ := cells7 (blk_keep hr hN7)) | (go_at_call 27; refine (nil_parts _).mono ?_; rintro _ wn ⟨rfl, hbn⟩; replace hr := below_then hr hbn; clear hbn m0 m1 m2 m3 m4 m5 m6 m7 m8 m9 m10 p0 p1 p2 p3 p4 p5 p6 p7 p8 p9 p10 n0 n1 n2 n3 n4 n5 n6; obtain ⟨⟨m0, m1, m2, m3, m4, m5, m6, m7, m8, m9, m10⟩, -⟩ := cells11' (blk_keep hr hM7); obtain ⟨⟨p0, p1, p2, p3, p4, p5, p6, p7, p8, p9, p10⟩, -⟩ := cells11' (blk_keep hr hP7); obtain ⟨⟨n0, n1, n2, n3, n4, n5, n6⟩, -⟩ := cells7 (blk_keep hr hN7)) | (go_at_call 7; refine (HK.out _).mono ?_; rintro _ wn ⟨rfl, hbn⟩; replace hr := below_then hr hbn; clear hbn m0 m1 m2 m3 m4 m5 m6 m7 m8 m9 m10 p0 p1 p2 p3 p4 p5 p6 p7 p8 p9 p10 n0 n1 n2 n3 n4 n5 n6; obtain ⟨⟨m0, m1, m2, m3, m4, m5, m6, m7, m8, m9, m10⟩, -⟩ := cells11' (blk_keep hr hM7); obtain ⟨⟨p0, p1, p2, p3, p4, p5, p6, p7, p8, p9, p10⟩, -⟩ := cells11' (blk_keep hr hP7); obtain ⟨⟨n0, n1, n2, n3, n4, n5, n6⟩, -⟩ := cells7 (blk_keep hr hN7))
  go_wp2_with fail
  refine hK.out _ _ ?_ ?_
  · ((try dsimp only); first | exact ⟨m0, m1, m2, m3, m4, m5, m6, m7, m8, m9, m10, p0, p1, p2, p3, p4, p5, p6, p7, p8, p9, p10, n0, n1, n2, n3, n4, n5, n6⟩ | go_keep)
  clear hHeld hK K
  intro hHeld
  try simp only [Act.put, List.setIfInBounds_toArray, List.set_cons_zero, List.set_cons_succ]
  refine rg_take 75 (v := ?_) rfl (by kernel_rfl) (by kernel_rfl) (by kernel_rfl) (fun _ _ _ h => h) (by rfl) (by assumption) ?_ ?_
  rotate_left 1
  · (intro w hSw; (try dsimp only at hSw); go_simp; with_reducible rfl)
  try simp only [Act.put, List.setIfInBounds_toArray, List.set_cons_zero, List.set_cons_succ]
  refine rg_take 76 (v := ?_) rfl (by kernel_rfl) (by kernel_rfl) (by kernel_rfl) (fun _ _ _ h => h) (by rfl) (by assumption) ?_ ?_
  rotate_left 1
  · (intro w hSw; (try dsimp only at hSw); go_simp; with_reducible rfl)
  try simp only [Act.put, List.setIfInBounds_toArray, List.set_cons_zero, List.set_cons_succ]
  refine rg_take 77 (v := ?_) rfl (by kernel_rfl) (by kernel_rfl) (by kernel_rfl) (fun _ _ _ h => h) (by rfl) (by assumption) ?_ ?_
  rotate_left 1
  · (intro w hSw; (try dsimp only at hSw); go_simp; with_reducible rfl)
  try simp only [Act.put, List.setIfInBounds_toArray, List.set_cons_zero, List.set_cons_succ]
  refine rg_take 78 (v := ?_) rfl (by kernel_rfl) (by kernel_rfl) (by kernel_rfl) (fun _ _ _ h => h) (by rfl) (by assumption) ?_ ?_
  rotate_left 1
  · (intro w hSw; (try dsimp only at hSw); go_simp; with_reducible rfl)
  try simp only [Act.put, List.setIfInBounds_toArray, List.set_cons_zero, List.set_cons_succ]
  refine wpAnyH_ready (rs := [79]) (by kernel_rfl) (by simp) ?_
  refine rg_step 79 rfl (fun K hK => ?_) (AllReadyH.nil)
  go_simp
  first | (go_at_call 12; refine (nil_info _).mono ?_; rintro _ wn ⟨rfl, hbn⟩; replace hr := below_then hr hbn; clear hbn m0 m1 m2 m3 m4 m5 m6 m7 m8 m9 m10 p0 p1 p2 p3 p4 p5 p6 p7 p8 p9 p10 n0 n1 n2 n3 n4 n5 n6; obtain ⟨⟨m0, m1, m2, m3, m4, m5, m6, m7, m8, m9, m10⟩, -⟩ := cells11' (blk_keep hr hM7); obtain ⟨⟨p0, p1, p2, p3, p4, p5, p6, p7, p8, p9, p10⟩, -⟩ := cells11' (blk_keep hr hP7); obtain ⟨⟨n0, n1, n2, n3, n4, n5, n6⟩, -⟩ := cells7 (blk_keep hr hN7)) | (go_at_call 24; refine (nil_log _).mono ?_; rintro _ wn ⟨rfl, hbn⟩; replace hr := below_then hr hbn; clear hbn m0 m1 m2 m3 m4 m5 m6 m7 m8 m9 m10 p0 p1 p2 p3 p4 p5 p6 p7 p8 p9 p10 n0 n1 n2 n3 n4 n5 n6; obtain ⟨⟨m0, m1, m2, m3, m4, m5, m6, m7, m8, m9, m10⟩, -⟩ := cells11' (blk_keep hr hM7); obtain ⟨⟨p0, p1, p2, p3, p4, p5, p6, p7, p8, p9, p10⟩, -⟩ := cells11' (blk_keep hr hP7); obtain ⟨⟨n0, n1, n2, n3, n4, n5, n6⟩, -⟩ := cells7 (blk_keep hr hN7)) | (go_at_call 10; refine (nil_tick _).mono ?_; rintro _ wn ⟨rfl, hbn⟩; replace hr := below_then hr hbn; clear hbn m0 m1 m2 m3 m4 m5 m6 m7 m8 m9 m10 p0 p1 p2 p3 p4 p5 p6 p7 p8 p9 p10 n0 n1 n2 n3 n4 n5 n6; obtain ⟨⟨m0, m1, m2, m3, m4, m5, m6, m7, m8, m9, m10⟩, -⟩ := cells11' (blk_keep hr hM7); obtain ⟨⟨p0, p1, p2, p3, p4, p5, p6, p7, p8, p9, p10⟩, -⟩ := cells11' (blk_keep hr hP7); obtain ⟨⟨n0, n1, n2, n3, n4, n5, n6⟩, -⟩ := cells7 (blk_keep hr hN7)) | (go_at_call 13; refine (nil_take m vl vd _).mono ?_; rintro _ wn ⟨rfl, hbn⟩; replace hr := below_then hr hbn; clear hbn m0 m1 m2 m3 m4 m5 m6 m7 m8 m9 m10 p0 p1 p2 p3 p4 p5 p6 p7 p8 p9 p10 n0 n1 n2 n3 n4 n5 n6; obtain ⟨⟨m0, m1, m2, m3, m4, m5, m6, m7, m8, m9, m10⟩, -⟩ := cells11' (blk_keep hr hM7); obtain ⟨⟨p0, p1, p2, p3, p4, p5, p6, p7, p8, p9, p10⟩, -⟩ := cells11' (blk_keep hr hP7); obtain ⟨⟨n0, n1, n2, n3, n4, n5, n6⟩, -⟩ := cells7 (blk_keep hr hN7)) | (go_at_call 25; refine (nil_one _).mono ?_; rintro _ wn ⟨rfl, hbn⟩; replace hr := below_then hr hbn; clear hbn m0 m1 m2 m3 m4 m5 m6 m7 m8 m9 m10 p0 p1 p2 p3 p4 p5 p6 p7 p8 p9 p10 n0 n1 n2 n3 n4 n5 n6; obtain ⟨⟨m0, m1, m2, m3, m4, m5, m6, m7, m8, m9, m10⟩, -⟩ := cells11' (blk_keep hr hM7); obtain ⟨⟨p0, p1, p2, p3, p4, p5, p6, p7, p8, p9, p10⟩, -⟩ := cells11' (blk_keep hr hP7); obtain ⟨⟨n0, n1, n2, n3, n4, n5, n6⟩, -⟩ := cells7 (blk_keep hr hN7)) | (go_at_call 20; refine (nil_floor _ _).mono ?_; rintro _ wn ⟨rfl, hbn⟩; replace hr := below_then hr hbn; clear hbn m0 m1 m2 m3 m4 m5 m6 m7 m8 m9 m10 p0 p1 p2 p3 p4 p5 p6 p7 p8 p9 p10 n0 n1 n2 n3 n4 n5 n6; obtain ⟨⟨m0, m1, m2, m3, m4, m5, m6, m7, m8, m9, m10⟩, -⟩ := cells11' (blk_keep hr hM7); obtain ⟨⟨p0, p1, p2, p3, p4, p5, p6, p7, p8, p9, p10⟩, -⟩ := cells11' (blk_keep hr hP7); obtain ⟨⟨n0, n1, n2, n3, n4, n5, n6⟩, -⟩ := cells7 (blk_keep hr hN7)) | (go_at_call 26; refine (nil_lacking _).mono ?_; rintro _ wn ⟨rfl, hbn⟩; replace hr := below_then hr hbn; clear hbn m0 m1 m2 m3 m4 m5 m6 m7 m8 m9 m10 p0 p1 p2 p3 p4 p5 p6 p7 p8 p9 p10 n0 n1 n2 n3 n4 n5 n6; obtain ⟨⟨m0, m1, m2, m3, m4, m5, m6, m7, m8, m9, m10⟩, -⟩ := cells11' (blk_keep hr hM7); obtain ⟨⟨p0, p1, p2, p3, p4, p5, p6, p7, p8, p9, p10⟩, -⟩ := cells11' (blk_keep hr hP7); obtain ⟨⟨n0, n1, n2, n3, n4, n5, n6⟩, -⟩ := cells7 (blk_keep hr hN7)) | (go_at_call 27; refine (nil_parts _).mono ?_; rintro _ wn ⟨rfl, hbn⟩; replace hr := below_then hr hbn; clear hbn m0 m1 m2 m3 m4 m5 m6 m7 m8 m9 m10 p0 p1 p2 p3 p4 p5 p6 p7 p8 p9 p10 n0 n1 n2 n3 n4 n5 n6; obtain ⟨⟨m0, m1, m2, m3, m4, m5, m6, m7, m8, m9, m10⟩, -⟩ := cells11' (blk_keep hr hM7); obtain ⟨⟨p0, p1, p2, p3, p4, p5, p6, p7, p8, p9, p10⟩, -⟩ := cells11' (blk_keep hr hP7); obtain ⟨⟨n0, n1, n2, n3, n4, n5, n6⟩, -⟩ := cells7 (blk_keep hr hN7)) | (go_at_call 7; refine (HK.out _).mono ?_; rintro _ wn ⟨rfl, hbn⟩; replace hr := below_then hr hbn; clear hbn m0 m1 m2 m3 m4 m5 m6 m7 m8 m9 m10 p0 p1 p2 p3 p4 p5 p6 p7 p8 p9 p10 n0 n1 n2 n3 n4 n5 n6; obtain ⟨⟨m0, m1, m2, m3, m4, m5, m6, m7, m8, m9, m10⟩, -⟩ := cells11' (blk_keep hr hM7); obtain ⟨⟨p0, p1, p2, p3, p4, p5, p6, p7, p8, p9, p10⟩, -⟩ := cells11' (blk_keep hr hP7); obtain ⟨⟨n0, n1, n2, n3, n4, n5, n6⟩, -⟩ := cells7 (blk_keep hr hN7))
  go_wp2_with fail
  refine hK.out _ _ ?_ ?_
  · ((try dsimp only); first | exact ⟨m0, m1, m2, m3, m4, m5, m6, m7, m8, m9, m10, p0, p1, p2, p3, p4, p5, p6, p7, p8, p9, p10, n0, n1, n2, n3, n4, n5, n6⟩ | go_keep)
  clear hHeld hK K
  intro hHeld
  try simp only [Act.put, List.setIfInBounds_toArray, List.set_cons_zero, List.set_cons_succ]
  refine rg_take 80 (v := ?_) rfl (by kernel_rfl) (by kernel_rfl) (by kernel_rfl) (fun _ _ _ h => h) (by rfl) (by assumption) ?_ ?_
  rotate_left 1
  · (intro w hSw; (try dsimp only at hSw); go_simp; with_reducible rfl)
  try simp only [Act.put, List.setIfInBounds_toArray, List.set_cons_zero, List.set_cons_succ]
  refine rg_take 81 (v := ?_) rfl (by kernel_rfl) (by kernel_rfl) (by kernel_rfl) (fun _ _ _ h => h) (by rfl) (by assumption) ?_ ?_
  rotate_left 1
  · (intro w hSw; (try dsimp only at hSw); go_simp; with_reducible rfl)
  try simp only [Act.put, List.setIfInBounds_toArray, List.set_cons_zero, List.set_cons_succ]
  refine wpAnyH_done (by kernel_rfl) ?_ _
  clear m0 m1 m2 m3 m4 m5 m6 m7 m8 m9 m10 p0 p1 p2 p3 p4 p5 p6 p7 p8 p9 p10 n0 n1 n2 n3 n4 n5 n6
  go_wp2_with fail
  go_ret
  exact ⟨rfl, below_then Hb7.out hr⟩
end Go.Proofs.YtahagecdebadfaaGreat

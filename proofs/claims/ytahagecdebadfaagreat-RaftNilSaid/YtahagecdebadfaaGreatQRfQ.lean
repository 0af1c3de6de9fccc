/- Texts that belong together, in one file: RfN, PckB, RfO, RfQ. No statement is proved here. -/
import Derived.Test.YtahagecdebadfaaGreatQRfM
import Derived.Test.YtahagecdebadfaaGreatQEntM
namespace Go.Proofs.YtahagecdebadfaaGreat
open Go.RowKit

theorem method_leader (n : Nat) (v : Value) (w : World) : (method (n + 1) 95 v "caisson/raft.number").run Tryz.prog w = .ok (167, v) w := by kernel_rfl
theorem ahead_leader (n : Nat) (a : Addr) (w : World) : (nilAhead (n + 1) 95 (.pointer (some a)) "caisson/raft.number").run Tryz.prog w = .ok (some false) w := by kernel_rfl
attribute [go_sem] method_leader ahead_leader
theorem rnumL_any (v : Value) (w : World) : Calls Tryz.prog 167 #[v] w fun e w' => e = .returned (.int .i64 3) ∧ w = w' := by
  go_enter Tryz.func167, Tryz.ntmps167
  go_wp2
  go_ret
  exact ⟨rfl, rfl⟩
theorem cells7 {w : World} {p : Nat} {x0 x1 x2 x3 x4 x5 x6 : Value} {t : TypeId} (h : w.heap[p]? = some (.cells #[x0, x1, x2, x3, x4, x5, x6] t (0, 0))) :
    (w.cell? ⟨p, 0, none⟩ = some x0 ∧ w.cell? ⟨p, 1, none⟩ = some x1 ∧ w.cell? ⟨p, 2, none⟩ = some x2 ∧ w.cell? ⟨p, 3, none⟩ = some x3 ∧ w.cell? ⟨p, 4, none⟩ = some x4 ∧ w.cell? ⟨p, 5, none⟩ = some x5 ∧ w.cell? ⟨p, 6, none⟩ = some x6) ∧
    w.frozen? ⟨p, 0, none⟩ = false ∧ w.frozen? ⟨p, 1, none⟩ = false ∧ w.frozen? ⟨p, 2, none⟩ = false ∧ w.frozen? ⟨p, 3, none⟩ = false ∧ w.frozen? ⟨p, 4, none⟩ = false ∧ w.frozen? ⟨p, 5, none⟩ = false ∧ w.frozen? ⟨p, 6, none⟩ = false := by
  refine ⟨?_, ?_⟩ <;> simp [World.cell?, World.frozen?, h]
def info0 : Obj := .cells #[.int .i64 0, .int .i64 0, .int .i64 0, .int .i64 0, .int .i64 0, .int .i64 0, .int .i64 0] 48
set_option maxHeartbeats 4000000 in
theorem rinfo_lead (p q : Nat) (me term c rd n qu vo : Int) (x7 x9 x11 : Value) (g : Lg) (w : World) (h : Alone p q me term c rd n qu (.int .i64 vo) x7 x9 x11 g w) (hg : g.Good)
    (hm : 0 ≤ me) (hm' : me < 5) :
    Calls Tryz.prog 12 #[.pointer (some ⟨p, 0, none⟩)] w fun e w' => e = .returned (.agg #[.int .i64 term, .int .i64 vo, .int .i64 3, .int .i64 me, .int .i64 c, .int .i64 g.mem, .int .i64 (bestGo ([0, 0, 0, 0, 0].set me.toNat rd) g.mem 5)]) ∧ Below w.heap.size w w' := by
  obtain ⟨lv, hpq, h, hq, hL⟩ := h
  have hplt := (Array.getElem?_eq_some_iff.1 h).1
  have hqlt := (Array.getElem?_eq_some_iff.1 hq).1
  go_enter Tryz.func12, Tryz.ntmps12
  go_wp2_with fail
  obtain ⟨W, hW⟩ : ∃ W, w.alloc info0 = W := ⟨_, rfl⟩
  have hbW : Below w.heap.size w W := by rw [← hW]; exact box_below w _
  have hpW := blk_keep hbW h
  have hqW := blk_keep hbW hq
  have hLW := hL.keep hbW
  have hres : W.heap[w.heap.size]? = some info0 := by rw [← hW]; exact blk_new w _
  unfold info0 at hW hres
  rw [hW]
  have hsz : W.heap.size = w.heap.size + 1 := by rw [← hW]; simp
  clear hW
  obtain ⟨R, hR⟩ : ∃ R, w.heap.size = R := ⟨_, rfl⟩
  rw [hR] at hres hplt hqlt hsz hbW ⊢
  have HR := Lib.hid hR
  clear hR h hq hL
  obtain ⟨⟨c0, c1, c2, c3, c4, c5, c6, c7, c8, c9, c10, c11, c12⟩, cf⟩ := cells13 hpW
  have HpW := Lib.hid hpW
  have HqW := Lib.hid hqW
  have HLW := Lib.hid hLW
  have HRW := Lib.hid hres
  have HM := Lib.hid fun V (hV : Below W.heap.size W V) => rmembers_any p _ _ _ _ _ _ _ _ _ _ _ _ _ g V (blk_keep hV HpW.out) (HLW.out.keep hV) hg
  clear hpW hqW hLW hres cf
  have hn1 : ¬ W.heap.size = p := by omega
  have hnR : R < W.heap.size := by omega
  have Hsz := Lib.hid hsz
  clear hsz
  refine wp_region_held_drew (S := (fun w' => w'.cell? ⟨p, 1, none⟩ = some (.int .i64 term) ∧ w'.cell? ⟨p, 2, none⟩ = some (.int .i64 vo) ∧ w'.cell? ⟨p, 3, none⟩ = some (.int .i64 me) ∧ w'.cell? ⟨p, 5, none⟩ = some (.int .i64 c) ∧ w'.cell? ⟨p, 6, none⟩ = some (.iface 95 (.pointer (some ⟨q, 0, none⟩))))) (by kernel_rfl) ?_ ?_
  · ((try dsimp only); go_keep)
  intro hHeld
  refine rg_take 0 (v := ?_) rfl (by kernel_rfl) (by kernel_rfl) (by kernel_rfl) (fun _ _ _ h => h) (by rfl) (by assumption) ?_ ?_
  rotate_left 1
  · (intro w hSw; (try dsimp only at hSw); go_simp; with_reducible rfl)
  try simp only [Act.put, List.setIfInBounds_toArray, List.set_cons_zero, List.set_cons_succ]
  refine rg_take 1 (v := ?_) rfl (by kernel_rfl) (by kernel_rfl) (by kernel_rfl) (fun _ _ _ h => h) (by rfl) (by assumption) ?_ ?_
  rotate_left 1
  · (intro w hSw; (try dsimp only at hSw); go_simp; with_reducible rfl)
  try simp only [Act.put, List.setIfInBounds_toArray, List.set_cons_zero, List.set_cons_succ]
  refine rg_take 2 (v := ?_) rfl (by kernel_rfl) (by kernel_rfl) (by kernel_rfl) (fun _ _ _ h => h) (by rfl) (by assumption) ?_ ?_
  rotate_left 1
  · (intro w hSw; (try dsimp only at hSw); go_simp; with_reducible rfl)
  try simp only [Act.put, List.setIfInBounds_toArray, List.set_cons_zero, List.set_cons_succ]
  refine rg_take 3 (v := ?_) rfl (by kernel_rfl) (by kernel_rfl) (by kernel_rfl) (fun _ _ _ h => h) (by rfl) (by assumption) ?_ ?_
  rotate_left 1
  · (intro w hSw; (try dsimp only at hSw); go_simp; with_reducible rfl)
  try simp only [Act.put, List.setIfInBounds_toArray, List.set_cons_zero, List.set_cons_succ]
  refine rg_take 4 (v := ?_) rfl (by kernel_rfl) (by kernel_rfl) (by kernel_rfl) (fun _ _ _ h => h) (by rfl) (by assumption) ?_ ?_
  rotate_left 1
  · (intro w hSw; (try dsimp only at hSw); go_simp; with_reducible rfl)
  try simp only [Act.put, List.setIfInBounds_toArray, List.set_cons_zero, List.set_cons_succ]
  refine rg_take 5 (v := ?_) rfl (by kernel_rfl) (by kernel_rfl) (by kernel_rfl) (fun _ _ _ h => h) (by rfl) (by assumption) ?_ ?_
  rotate_left 1
  · (intro w hSw; (try dsimp only at hSw); go_simp; with_reducible rfl)
  try simp only [Act.put, List.setIfInBounds_toArray, List.set_cons_zero, List.set_cons_succ]
  refine rg_take 6 (v := ?_) rfl (by kernel_rfl) (by kernel_rfl) (by kernel_rfl) (fun _ _ _ h => h) (by rfl) (by assumption) ?_ ?_
  rotate_left 1
  · (intro w hSw; (try dsimp only at hSw); go_simp; with_reducible rfl)
  try simp only [Act.put, List.setIfInBounds_toArray, List.set_cons_zero, List.set_cons_succ]
  refine rg_take 7 (v := ?_) rfl (by kernel_rfl) (by kernel_rfl) (by kernel_rfl) (fun _ _ _ h => h) (by rfl) (by assumption) ?_ ?_
  rotate_left 1
  · (intro w hSw; (try dsimp only at hSw); go_simp; with_reducible rfl)
  try simp only [Act.put, List.setIfInBounds_toArray, List.set_cons_zero, List.set_cons_succ]
  refine rg_take 8 (v := ?_) rfl (by kernel_rfl) (by kernel_rfl) (by kernel_rfl) (fun _ _ _ h => h) (by rfl) (by assumption) ?_ ?_
  rotate_left 1
  · (intro w hSw; (try dsimp only at hSw); go_simp; with_reducible rfl)
  try simp only [Act.put, List.setIfInBounds_toArray, List.set_cons_zero, List.set_cons_succ]
  refine rg_take 9 (v := ?_) rfl (by kernel_rfl) (by kernel_rfl) (by kernel_rfl) (fun _ _ _ h => h) (by rfl) (by assumption) ?_ ?_
  rotate_left 1
  · (intro w hSw; (try dsimp only at hSw); go_simp; with_reducible rfl)
  try simp only [Act.put, List.setIfInBounds_toArray, List.set_cons_zero, List.set_cons_succ]
  refine rg_take 10 (v := ?_) rfl (by kernel_rfl) (by kernel_rfl) (by kernel_rfl) (fun _ _ _ h => h) (by rfl) (by assumption) ?_ ?_
  rotate_left 1
  · (intro w hSw; (try dsimp only at hSw); go_simp; with_reducible rfl)
  try simp only [Act.put, List.setIfInBounds_toArray, List.set_cons_zero, List.set_cons_succ]
  refine rg_take 11 (v := ?_) rfl (by kernel_rfl) (by kernel_rfl) (by kernel_rfl) (fun _ _ _ h => h) (by rfl) (by assumption) ?_ ?_
  rotate_left 1
  · (intro w hSw; (try dsimp only at hSw); go_simp; with_reducible rfl)
  try simp only [Act.put, List.setIfInBounds_toArray, List.set_cons_zero, List.set_cons_succ]
  refine rg_take 13 (v := ?_) rfl (by kernel_rfl) (by kernel_rfl) (by kernel_rfl) (fun _ _ _ h => h) (by rfl) (by assumption) ?_ ?_
  rotate_left 1
  · (intro w hSw; (try dsimp only at hSw); go_simp; with_reducible rfl)
  try simp only [Act.put, List.setIfInBounds_toArray, List.set_cons_zero, List.set_cons_succ]
  refine rg_take 14 (v := ?_) rfl (by kernel_rfl) (by kernel_rfl) (by kernel_rfl) (fun _ _ _ h => h) (by rfl) (by assumption) ?_ ?_
  rotate_left 1
  · (intro w hSw; (try dsimp only at hSw); go_simp; with_reducible rfl)
  try simp only [Act.put, List.setIfInBounds_toArray, List.set_cons_zero, List.set_cons_succ]
  refine rg_take 15 (v := ?_) rfl (by kernel_rfl) (by kernel_rfl) (by kernel_rfl) (fun _ _ _ h => h) (by rfl) (by assumption) ?_ ?_
  rotate_left 1
  · (intro w hSw; (try dsimp only at hSw); go_simp; with_reducible rfl)
  try simp only [Act.put, List.setIfInBounds_toArray, List.set_cons_zero, List.set_cons_succ]
  refine rg_take 16 (v := ?_) rfl (by kernel_rfl) (by kernel_rfl) (by kernel_rfl) (fun _ _ _ h => h) (by rfl) (by assumption) ?_ ?_
  rotate_left 1
  · (intro w hSw; (try dsimp only at hSw); go_simp; with_reducible rfl)
  try simp only [Act.put, List.setIfInBounds_toArray, List.set_cons_zero, List.set_cons_succ]
  refine rg_take 17 (v := ?_) rfl (by kernel_rfl) (by kernel_rfl) (by kernel_rfl) (fun _ _ _ h => h) (by rfl) (by assumption) ?_ ?_
  rotate_left 1
  · (intro w hSw; (try dsimp only at hSw); go_simp; with_reducible rfl)
  try simp only [Act.put, List.setIfInBounds_toArray, List.set_cons_zero, List.set_cons_succ]
  refine rg_take 18 (v := ?_) rfl (by kernel_rfl) (by kernel_rfl) (by kernel_rfl) (fun _ _ _ h => h) (by rfl) (by assumption) ?_ ?_
  rotate_left 1
  · (intro w hSw; (try dsimp only at hSw); go_simp; with_reducible rfl)
  try simp only [Act.put, List.setIfInBounds_toArray, List.set_cons_zero, List.set_cons_succ]
  refine rg_take 19 (v := ?_) rfl (by kernel_rfl) (by kernel_rfl) (by kernel_rfl) (fun _ _ _ h => h) (by rfl) (by assumption) ?_ ?_
  rotate_left 1
  · (intro w hSw; (try dsimp only at hSw); go_simp; with_reducible rfl)
  try simp only [Act.put, List.setIfInBounds_toArray, List.set_cons_zero, List.set_cons_succ]
  refine rg_take 20 (v := ?_) rfl (by kernel_rfl) (by kernel_rfl) (by kernel_rfl) (fun _ _ _ h => h) (by rfl) (by assumption) ?_ ?_
  rotate_left 1
  · (intro w hSw; (try dsimp only at hSw); go_simp; with_reducible rfl)
  try simp only [Act.put, List.setIfInBounds_toArray, List.set_cons_zero, List.set_cons_succ]
  refine rg_take 21 (v := ?_) rfl (by kernel_rfl) (by kernel_rfl) (by kernel_rfl) (fun _ _ _ h => h) (by rfl) (by assumption) ?_ ?_
  rotate_left 1
  · (intro w hSw; (try dsimp only at hSw); go_simp; with_reducible rfl)
  try simp only [Act.put, List.setIfInBounds_toArray, List.set_cons_zero, List.set_cons_succ]
  refine wpAnyH_ready (rs := [12, 24]) (by kernel_rfl) (by simp) ?_
  refine rg_step 12 rfl (fun K hK => ?_) (rg_step 24 rfl (fun K hK => ?_) (AllReadyH.nil))
  focus
    go_simp
    first | (go_at_call 167; refine (rnumL_any _ _).mono ?_; rintro _ w4 ⟨rfl, rfl⟩) | (go_at_call 43; refine (HM.out _ (by first | exact (Below.refl _ _).drew | exact (box_below _ _).drew)).mono ?_; rintro _ w5 ⟨rfl, hb5⟩; have hbe : Below W.heap.size W w5 := (by first | exact below_then (Below.refl _ _).drew hb5 | exact below_then (box_below _ _).drew hb5); have e1 := cell_keep hbe c1; have e2 := cell_keep hbe c2; have e3 := cell_keep hbe c3; have e5 := cell_keep hbe c5; have e6 := cell_keep hbe c6; have hn5 : ¬ w5.heap.size = p := (by have := hbe.size; have := Hsz.out; omega); try (obtain ⟨⟨y0, y1, y2, y3, y4, y5, y6⟩, f0, f1, f2, f3, f4, f5, f6⟩ := cells7 (blk_keep hb5 (blk_new W (.cells #[.int .i64 0, .int .i64 0, .int .i64 0, .int .i64 0, .int .i64 0, .int .i64 0, .int .i64 0] 48)))))
    go_wp2_with fail
    refine hK.out _ _ ?_ ?_
    · ((try dsimp only); go_keep)
    clear hHeld hK K
    intro hHeld
    try simp only [Act.put, List.setIfInBounds_toArray, List.set_cons_zero, List.set_cons_succ]
    refine wpAnyH_ready (rs := [22, 24]) (by kernel_rfl) (by simp) ?_
    refine rg_step 22 rfl (fun K hK => ?_) (rg_step 24 rfl (fun K hK => ?_) (AllReadyH.nil))
    focus
      go_simp
      first | (go_at_call 167; refine (rnumL_any _ _).mono ?_; rintro _ w4 ⟨rfl, rfl⟩) | (go_at_call 43; refine (HM.out _ (by first | exact (Below.refl _ _).drew | exact (box_below _ _).drew)).mono ?_; rintro _ w5 ⟨rfl, hb5⟩; have hbe : Below W.heap.size W w5 := (by first | exact below_then (Below.refl _ _).drew hb5 | exact below_then (box_below _ _).drew hb5); have e1 := cell_keep hbe c1; have e2 := cell_keep hbe c2; have e3 := cell_keep hbe c3; have e5 := cell_keep hbe c5; have e6 := cell_keep hbe c6; have hn5 : ¬ w5.heap.size = p := (by have := hbe.size; have := Hsz.out; omega); try (obtain ⟨⟨y0, y1, y2, y3, y4, y5, y6⟩, f0, f1, f2, f3, f4, f5, f6⟩ := cells7 (blk_keep hb5 (blk_new W (.cells #[.int .i64 0, .int .i64 0, .int .i64 0, .int .i64 0, .int .i64 0, .int .i64 0, .int .i64 0] 48)))))
      go_wp2_with fail
      refine hK.out _ _ ?_ ?_
      · ((try dsimp only); go_keep)
      clear hHeld hK K
      intro hHeld
      try simp only [Act.put, List.setIfInBounds_toArray, List.set_cons_zero, List.set_cons_succ]
      refine rg_take 23 (v := ?_) rfl (by kernel_rfl) (by kernel_rfl) (by kernel_rfl) (fun _ _ _ h => h) (by rfl) (by assumption) ?_ ?_
      rotate_left 1
      · (intro w hSw; (try dsimp only at hSw); go_simp; with_reducible rfl)
      try simp only [Act.put, List.setIfInBounds_toArray, List.set_cons_zero, List.set_cons_succ]
      refine wpAnyH_ready (rs := [24]) (by kernel_rfl) (by simp) ?_
      refine rg_step 24 rfl (fun K hK => ?_) (AllReadyH.nil)
      go_simp
      refine hK.out _ _ ?_ ?_
      · ((try dsimp only); go_keep)
      clear hHeld hK K
      intro hHeld
      try simp only [Act.put, List.setIfInBounds_toArray, List.set_cons_zero, List.set_cons_succ]
      refine wpAnyH_ready (rs := [25]) (by kernel_rfl) (by simp) ?_
      refine rg_step 25 rfl (fun K hK => ?_) (AllReadyH.nil)
      go_simp
      refine hK.out _ _ ?_ ?_
      · ((try dsimp only); go_keep)
      clear hHeld hK K
      intro hHeld
      try simp only [Act.put, List.setIfInBounds_toArray, List.set_cons_zero, List.set_cons_succ]
      refine wpAnyH_done (by kernel_rfl) ?_ _
    rotate_left 1
    focus
      go_simp
      refine hK.out _ _ ?_ ?_
      · ((try dsimp only); go_keep)
      clear hHeld hK K
      intro hHeld
      try simp only [Act.put, List.setIfInBounds_toArray, List.set_cons_zero, List.set_cons_succ]
      refine wpAnyH_ready (rs := [22]) (by kernel_rfl) (by simp) ?_
      refine rg_step 22 rfl (fun K hK => ?_) (AllReadyH.nil)
      go_simp
      first | (go_at_call 167; refine (rnumL_any _ _).mono ?_; rintro _ w4 ⟨rfl, rfl⟩) | (go_at_call 43; refine (HM.out _ (by first | exact (Below.refl _ _).drew | exact (box_below _ _).drew)).mono ?_; rintro _ w5 ⟨rfl, hb5⟩; have hbe : Below W.heap.size W w5 := (by first | exact below_then (Below.refl _ _).drew hb5 | exact below_then (box_below _ _).drew hb5); have e1 := cell_keep hbe c1; have e2 := cell_keep hbe c2; have e3 := cell_keep hbe c3; have e5 := cell_keep hbe c5; have e6 := cell_keep hbe c6; have hn5 : ¬ w5.heap.size = p := (by have := hbe.size; have := Hsz.out; omega); try (obtain ⟨⟨y0, y1, y2, y3, y4, y5, y6⟩, f0, f1, f2, f3, f4, f5, f6⟩ := cells7 (blk_keep hb5 (blk_new W (.cells #[.int .i64 0, .int .i64 0, .int .i64 0, .int .i64 0, .int .i64 0, .int .i64 0, .int .i64 0] 48)))))
      go_wp2_with fail
      refine hK.out _ _ ?_ ?_
      · ((try dsimp only); go_keep)
      clear hHeld hK K
      intro hHeld
      try simp only [Act.put, List.setIfInBounds_toArray, List.set_cons_zero, List.set_cons_succ]
      refine rg_take 23 (v := ?_) rfl (by kernel_rfl) (by kernel_rfl) (by kernel_rfl) (fun _ _ _ h => h) (by rfl) (by assumption) ?_ ?_
      rotate_left 1
      · (intro w hSw; (try dsimp only at hSw); go_simp; with_reducible rfl)
      try simp only [Act.put, List.setIfInBounds_toArray, List.set_cons_zero, List.set_cons_succ]
      refine wpAnyH_ready (rs := [25]) (by kernel_rfl) (by simp) ?_
      refine rg_step 25 rfl (fun K hK => ?_) (AllReadyH.nil)
      go_simp
      refine hK.out _ _ ?_ ?_
      · ((try dsimp only); go_keep)
      clear hHeld hK K
      intro hHeld
      try simp only [Act.put, List.setIfInBounds_toArray, List.set_cons_zero, List.set_cons_succ]
      refine wpAnyH_done (by kernel_rfl) ?_ _
    rotate_left 1
  rotate_left 2
  focus
    go_simp
    refine hK.out _ _ ?_ ?_
    · ((try dsimp only); go_keep)
    clear hHeld hK K
    intro hHeld
    try simp only [Act.put, List.setIfInBounds_toArray, List.set_cons_zero, List.set_cons_succ]
    refine wpAnyH_ready (rs := [12]) (by kernel_rfl) (by simp) ?_
    refine rg_step 12 rfl (fun K hK => ?_) (AllReadyH.nil)
    go_simp
    first | (go_at_call 167; refine (rnumL_any _ _).mono ?_; rintro _ w4 ⟨rfl, rfl⟩) | (go_at_call 43; refine (HM.out _ (by first | exact (Below.refl _ _).drew | exact (box_below _ _).drew)).mono ?_; rintro _ w5 ⟨rfl, hb5⟩; have hbe : Below W.heap.size W w5 := (by first | exact below_then (Below.refl _ _).drew hb5 | exact below_then (box_below _ _).drew hb5); have e1 := cell_keep hbe c1; have e2 := cell_keep hbe c2; have e3 := cell_keep hbe c3; have e5 := cell_keep hbe c5; have e6 := cell_keep hbe c6; have hn5 : ¬ w5.heap.size = p := (by have := hbe.size; have := Hsz.out; omega); try (obtain ⟨⟨y0, y1, y2, y3, y4, y5, y6⟩, f0, f1, f2, f3, f4, f5, f6⟩ := cells7 (blk_keep hb5 (blk_new W (.cells #[.int .i64 0, .int .i64 0, .int .i64 0, .int .i64 0, .int .i64 0, .int .i64 0, .int .i64 0] 48)))))
    go_wp2_with fail
    refine hK.out _ _ ?_ ?_
    · ((try dsimp only); go_keep)
    clear hHeld hK K
    intro hHeld
    try simp only [Act.put, List.setIfInBounds_toArray, List.set_cons_zero, List.set_cons_succ]
    refine wpAnyH_ready (rs := [22]) (by kernel_rfl) (by simp) ?_
    refine rg_step 22 rfl (fun K hK => ?_) (AllReadyH.nil)
    go_simp
    first | (go_at_call 167; refine (rnumL_any _ _).mono ?_; rintro _ w4 ⟨rfl, rfl⟩) | (go_at_call 43; refine (HM.out _ (by first | exact (Below.refl _ _).drew | exact (box_below _ _).drew)).mono ?_; rintro _ w5 ⟨rfl, hb5⟩; have hbe : Below W.heap.size W w5 := (by first | exact below_then (Below.refl _ _).drew hb5 | exact below_then (box_below _ _).drew hb5); have e1 := cell_keep hbe c1; have e2 := cell_keep hbe c2; have e3 := cell_keep hbe c3; have e5 := cell_keep hbe c5; have e6 := cell_keep hbe c6; have hn5 : ¬ w5.heap.size = p := (by have := hbe.size; have := Hsz.out; omega); try (obtain ⟨⟨y0, y1, y2, y3, y4, y5, y6⟩, f0, f1, f2, f3, f4, f5, f6⟩ := cells7 (blk_keep hb5 (blk_new W (.cells #[.int .i64 0, .int .i64 0, .int .i64 0, .int .i64 0, .int .i64 0, .int .i64 0, .int .i64 0] 48)))))
    go_wp2_with fail
    refine hK.out _ _ ?_ ?_
    · ((try dsimp only); go_keep)
    clear hHeld hK K
    intro hHeld
    try simp only [Act.put, List.setIfInBounds_toArray, List.set_cons_zero, List.set_cons_succ]
    refine rg_take 23 (v := ?_) rfl (by kernel_rfl) (by kernel_rfl) (by kernel_rfl) (fun _ _ _ h => h) (by rfl) (by assumption) ?_ ?_
    rotate_left 1
    · (intro w hSw; (try dsimp only at hSw); go_simp; with_reducible rfl)
    try simp only [Act.put, List.setIfInBounds_toArray, List.set_cons_zero, List.set_cons_succ]
    refine wpAnyH_ready (rs := [25]) (by kernel_rfl) (by simp) ?_
    refine rg_step 25 rfl (fun K hK => ?_) (AllReadyH.nil)
    go_simp
    refine hK.out _ _ ?_ ?_
    · ((try dsimp only); go_keep)
    clear hHeld hK K
    intro hHeld
    try simp only [Act.put, List.setIfInBounds_toArray, List.set_cons_zero, List.set_cons_succ]
    refine wpAnyH_done (by kernel_rfl) ?_ _
  rotate_left 1
  rotate_left 1
  all_goals try
    obtain ⟨V, hV⟩ : ∃ V, ((((((w5.setCell ⟨W.heap.size, 0, none⟩ (.int .i64 term)).setCell ⟨W.heap.size, 1, none⟩ (.int .i64 vo)).setCell ⟨W.heap.size, 2, none⟩ (.int .i64 3)).setCell ⟨W.heap.size, 3, none⟩ (.int .i64 me)).setCell ⟨W.heap.size, 4, none⟩ (.int .i64 c)).setCell ⟨W.heap.size, 5, none⟩ (.int .i64 g.mem)).setCell ⟨W.heap.size, 6, none⟩ (.int .i64 0) = V := ⟨_, rfl⟩
    rw [hV]
    have hVA : V.heap[W.heap.size]? = some (.cells #[.int .i64 term, .int .i64 vo, .int .i64 3, .int .i64 me, .int .i64 c, .int .i64 g.mem, .int .i64 0] 48 (0, 0)) := by rw [← hV]; exact blk_set (blk_set (blk_set (blk_set (blk_set (blk_set (blk_set (blk_keep hb5 (blk_new W (.cells #[.int .i64 0, .int .i64 0, .int .i64 0, .int .i64 0, .int .i64 0, .int .i64 0, .int .i64 0] 48))) _) _) _) _) _) _) _
    have hbV : Below W.heap.size W V := by rw [← hV]; exact ((((((hbe.setCell (Nat.le_refl _) _).setCell (Nat.le_refl _) _).setCell (Nat.le_refl _) _).setCell (Nat.le_refl _) _).setCell (Nat.le_refl _) _).setCell (Nat.le_refl _) _).setCell (Nat.le_refl _) _
    clear hV y0 y1 y2 y3 y4 y5 y6 f0 f1 f2 f3 f4 f5 f6
    obtain ⟨A, hA⟩ : ∃ A, W.heap.size = A := ⟨_, rfl⟩
    rw [hA] at hVA ⊢
    have hWA : W.heap.size ≤ A := by omega
    clear hA
  rotate_left 2
  · obtain ⟨V, hV⟩ : ∃ V, w5.alloc (.cells #[.int .i64 term, .int .i64 vo, .int .i64 3, .int .i64 me, .int .i64 c, .int .i64 g.mem, .int .i64 0] 48) = V := ⟨_, rfl⟩
    rw [hV]
    have hVA : V.heap[w5.heap.size]? = some (.cells #[.int .i64 term, .int .i64 vo, .int .i64 3, .int .i64 me, .int .i64 c, .int .i64 g.mem, .int .i64 0] 48 (0, 0)) := by rw [← hV]; exact blk_new _ _
    have hbV : Below W.heap.size W V := by rw [← hV]; exact below_alloc hbe _
    clear hV
    have hWA := hbe.size
    obtain ⟨A, hA⟩ : ∃ A, w5.heap.size = A := ⟨_, rfl⟩
    rw [hA] at hVA hWA ⊢
    clear hA
    clear e1 e2 e3 e5 e6 hn5 hn1 c0 c1 c2 c3 c4 c5 c6 c7 c8 c9 c10 c11 c12 HM
    have HpV := Lib.hid (blk_keep hbV HpW.out)
    obtain ⟨⟨d0, -, -, -, -, -, -, -, -, -, -, g0, g1, g2, g3, g4⟩, -⟩ := cells16 (blk_keep hbV HqW.out)
    obtain ⟨⟨m0, m1, m2, m3, m4, m5, m6⟩, f0, f1, f2, f3, f4, f5, f6⟩ := cells7 hVA
    have HVA := Lib.hid hVA
    have hbV' : Below R w V := hbW.trans (hbV.mono (Nat.le_of_lt hnR))
    have hLV := Lib.hid (HLW.out.keep hbV)
    clear hVA
    go_wp2_with fail
    refine (rleads_yes p _ _ _ _ _ _ _ _ _ _ _ _ _ V HpV.out).mono ?_
    rintro e v2 ⟨rfl, rfl⟩
    go_wp2_with fail
    have hAq : ¬ A = q := by omega
    have hmem2 := hg.mem
    have HBe := Lib.hid (rbest_any p me rd 0 0 0 0 0 g.mem (by omega) _ _ _ _ _ _ _ _ _ _ _ _ v2.drew (by exact HpV.out) hm hm' (fun U (hU : Below v2.heap.size v2.drew U) => rmembers_any p _ _ _ _ _ _ _ _ _ _ _ _ _ g U (blk_keep (below_of_drew hU) HpV.out) (hLV.out.keep (below_of_drew hU)) hg))
    clear hmem2 m0 m1 m2 m3 m4 m5 m6 f0 f1 f2 f3 f4 f5 f6
    refine wp_region_held_drew (S := (fun w' => w'.cell? ⟨q, 0, none⟩ = some (.int .i64 rd) ∧ w'.cell? ⟨q, 11, none⟩ = some (.int .i64 0) ∧ w'.cell? ⟨q, 12, none⟩ = some (.int .i64 0) ∧ w'.cell? ⟨q, 13, none⟩ = some (.int .i64 0) ∧ w'.cell? ⟨q, 14, none⟩ = some (.int .i64 0) ∧ w'.cell? ⟨q, 15, none⟩ = some (.int .i64 0))) (by kernel_rfl) ?_ ?_
    · ((try dsimp only); go_keep)
    intro hHeld
    refine rg_take 0 (v := ?_) rfl (by kernel_rfl) (by kernel_rfl) (by kernel_rfl) (fun _ _ _ h => h) (by rfl) (by assumption) ?_ ?_
    rotate_left 1
    · (intro w hSw; (try dsimp only at hSw); go_simp; with_reducible rfl)
    try simp only [Act.put, List.setIfInBounds_toArray, List.set_cons_zero, List.set_cons_succ]
    refine rg_take 1 (v := ?_) rfl (by kernel_rfl) (by kernel_rfl) (by kernel_rfl) (fun _ _ _ h => h) (by rfl) (by assumption) ?_ ?_
    rotate_left 1
    · (intro w hSw; (try dsimp only at hSw); go_simp; with_reducible rfl)
    try simp only [Act.put, List.setIfInBounds_toArray, List.set_cons_zero, List.set_cons_succ]
    refine rg_take 2 (v := ?_) rfl (by kernel_rfl) (by kernel_rfl) (by kernel_rfl) (fun _ _ _ h => h) (by rfl) (by assumption) ?_ ?_
    rotate_left 1
    · (intro w hSw; (try dsimp only at hSw); go_simp; with_reducible rfl)
    try simp only [Act.put, List.setIfInBounds_toArray, List.set_cons_zero, List.set_cons_succ]
    refine rg_take 3 (v := ?_) rfl (by kernel_rfl) (by kernel_rfl) (by kernel_rfl) (fun _ _ _ h => h) (by rfl) (by assumption) ?_ ?_
    rotate_left 1
    · (intro w hSw; (try dsimp only at hSw); go_simp; with_reducible rfl)
    try simp only [Act.put, List.setIfInBounds_toArray, List.set_cons_zero, List.set_cons_succ]
    refine rg_take 4 (v := ?_) rfl (by kernel_rfl) (by kernel_rfl) (by kernel_rfl) (fun _ _ _ h => h) (by rfl) (by assumption) ?_ ?_
    rotate_left 1
    · (intro w hSw; (try dsimp only at hSw); go_simp; with_reducible rfl)
    try simp only [Act.put, List.setIfInBounds_toArray, List.set_cons_zero, List.set_cons_succ]
    refine rg_take 5 (v := ?_) rfl (by kernel_rfl) (by kernel_rfl) (by kernel_rfl) (fun _ _ _ h => h) (by rfl) (by assumption) ?_ ?_
    rotate_left 1
    · (intro w hSw; (try dsimp only at hSw); go_simp; with_reducible rfl)
    try simp only [Act.put, List.setIfInBounds_toArray, List.set_cons_zero, List.set_cons_succ]
    refine rg_take 6 (v := ?_) rfl (by kernel_rfl) (by kernel_rfl) (by kernel_rfl) (fun _ _ _ h => h) (by rfl) (by assumption) ?_ ?_
    rotate_left 1
    · (intro w hSw; (try dsimp only at hSw); go_simp; with_reducible rfl)
    try simp only [Act.put, List.setIfInBounds_toArray, List.set_cons_zero, List.set_cons_succ]
    refine rg_take 7 (v := ?_) rfl (by kernel_rfl) (by kernel_rfl) (by kernel_rfl) (fun _ _ _ h => h) (by rfl) (by assumption) ?_ ?_
    rotate_left 1
    · (intro w hSw; (try dsimp only at hSw); go_simp; with_reducible rfl)
    try simp only [Act.put, List.setIfInBounds_toArray, List.set_cons_zero, List.set_cons_succ]
    refine rg_take 8 (v := ?_) rfl (by kernel_rfl) (by kernel_rfl) (by kernel_rfl) (fun _ _ _ h => h) (by rfl) (by assumption) ?_ ?_
    rotate_left 1
    · (intro w hSw; (try dsimp only at hSw); go_simp; with_reducible rfl)
    try simp only [Act.put, List.setIfInBounds_toArray, List.set_cons_zero, List.set_cons_succ]
    refine wpAnyH_ready (rs := [9]) (by kernel_rfl) (by simp) ?_
    refine rg_step 9 rfl (fun K hK => ?_) (AllReadyH.nil)
    go_simp
    (go_at_call 60; refine HBe.out.mono ?_; rintro _ w8 ⟨rfl, hb8'⟩; have hb8 : Below v2.heap.size v2 w8 := below_of_drew hb8'; have l0 := cell_keep hb8 d0; have l1 := cell_keep hb8 g0; have l2 := cell_keep hb8 g1; have l3 := cell_keep hb8 g2; have l4 := cell_keep hb8 g3; have l5 := cell_keep hb8 g4; obtain ⟨⟨m0, m1, m2, m3, m4, m5, m6⟩, f0, f1, f2, f3, f4, f5, f6⟩ := cells7 (blk_keep hb8 HVA.out))
    go_wp2_with fail
    refine hK.out _ _ ?_ ?_
    · ((try dsimp only); go_keep)
    clear hHeld hK K
    intro hHeld
    try simp only [Act.put, List.setIfInBounds_toArray, List.set_cons_zero, List.set_cons_succ]
    refine rg_take 10 (v := ?_) rfl (by kernel_rfl) (by kernel_rfl) (by kernel_rfl) (fun _ _ _ h => h) (by rfl) (by assumption) ?_ ?_
    rotate_left 1
    · (intro w hSw; (try dsimp only at hSw); go_simp; with_reducible rfl)
    try simp only [Act.put, List.setIfInBounds_toArray, List.set_cons_zero, List.set_cons_succ]
    refine wpAnyH_ready (rs := [11]) (by kernel_rfl) (by simp) ?_
    refine rg_step 11 rfl (fun K hK => ?_) (AllReadyH.nil)
    go_simp
    refine hK.out _ _ ?_ ?_
    · ((try dsimp only); go_keep)
    clear hHeld hK K
    intro hHeld
    try simp only [Act.put, List.setIfInBounds_toArray, List.set_cons_zero, List.set_cons_succ]
    refine wpAnyH_done (by kernel_rfl) ?_ _
    obtain ⟨b, hb⟩ : ∃ b, bestGo ([0, 0, 0, 0, 0].set me.toNat rd) g.mem 5 = b := ⟨_, rfl⟩
    rw [hb]
    have Hb := Lib.hid hb
    clear hb
    obtain ⟨V9, hV9⟩ : ∃ V9, w8.setCell ⟨A, 6, none⟩ (.int .i64 b) = V9 := ⟨_, rfl⟩
    have hAV := blk_set (k := 6) (blk_keep hb8 HVA.out) (.int .i64 b)
    rw [hV9] at hAV ⊢
    have hb9 : Below R w V9 := by
      rw [← hV9]
      exact (hbV'.trans (hb8.mono (by have := hbV.size; omega))).setCell (by show R ≤ A; omega) _
    have hRV : V9.heap[R]? = some (.cells #[.int .i64 0, .int .i64 0, .int .i64 0, .int .i64 0, .int .i64 0, .int .i64 0, .int .i64 0] 48 (0, 0)) := by
      rw [← hV9, Below.heap_setCell _ _ _ _ (by show R ≠ A; omega)]
      exact blk_keep hb8 (blk_keep hbV HRW.out)
    clear hV9 m0 m1 m2 m3 m4 m5 m6 f0 f1 f2 f3 f4 f5 f6 l0 l1 l2 l3 l4 l5 d0 g0 g1 g2 g3 g4 HBe hb8'
    obtain ⟨⟨m0, m1, m2, m3, m4, m5, m6⟩, -⟩ := cells7 hAV
    obtain ⟨⟨r0, r1, r2, r3, r4, r5, r6⟩, f0, f1, f2, f3, f4, f5, f6⟩ := cells7 hRV
    go_wp2_with fail
    refine bodyPost_ret (v := .agg #[.int .i64 term, .int .i64 vo, .int .i64 3, .int .i64 me, .int .i64 c, .int .i64 g.mem, .int .i64 b]) (by simp [results, Tryz.results12, go_sem, r0, r1, r2, r3, r4, r5, r6]) rfl ⟨by rw [Hb.out], ?_⟩
    rw [HR.out]
    exact ((((((hb9.setCell (Nat.le_refl _) _).setCell (Nat.le_refl _) _).setCell (Nat.le_refl _) _).setCell (Nat.le_refl _) _).setCell (Nat.le_refl _) _).setCell (Nat.le_refl _) _).setCell (Nat.le_refl _) _
  all_goals
    clear e1 e2 e3 e5 e6 hn5 hn1 c0 c1 c2 c3 c4 c5 c6 c7 c8 c9 c10 c11 c12 HM
    have HpV := Lib.hid (blk_keep hbV HpW.out)
    obtain ⟨⟨d0, -, -, -, -, -, -, -, -, -, -, g0, g1, g2, g3, g4⟩, -⟩ := cells16 (blk_keep hbV HqW.out)
    obtain ⟨⟨m0, m1, m2, m3, m4, m5, m6⟩, f0, f1, f2, f3, f4, f5, f6⟩ := cells7 hVA
    have HVA := Lib.hid hVA
    have hbV' : Below R w V := hbW.trans (hbV.mono (Nat.le_of_lt hnR))
    have hLV := Lib.hid (HLW.out.keep hbV)
    clear hVA
    go_wp2_with fail
    refine (rleads_yes p _ _ _ _ _ _ _ _ _ _ _ _ _ V HpV.out).mono ?_
    rintro e v2 ⟨rfl, rfl⟩
    go_wp2_with fail
    have hAq : ¬ A = q := by omega
    have hmem2 := hg.mem
    have HBe := Lib.hid (rbest_any p me rd 0 0 0 0 0 g.mem (by omega) _ _ _ _ _ _ _ _ _ _ _ _ v2.drew (by exact HpV.out) hm hm' (fun U (hU : Below v2.heap.size v2.drew U) => rmembers_any p _ _ _ _ _ _ _ _ _ _ _ _ _ g U (blk_keep (below_of_drew hU) HpV.out) (hLV.out.keep (below_of_drew hU)) hg))
    clear hmem2 m0 m1 m2 m3 m4 m5 m6 f0 f1 f2 f3 f4 f5 f6
    refine wp_region_held_drew (S := (fun w' => w'.cell? ⟨q, 0, none⟩ = some (.int .i64 rd) ∧ w'.cell? ⟨q, 11, none⟩ = some (.int .i64 0) ∧ w'.cell? ⟨q, 12, none⟩ = some (.int .i64 0) ∧ w'.cell? ⟨q, 13, none⟩ = some (.int .i64 0) ∧ w'.cell? ⟨q, 14, none⟩ = some (.int .i64 0) ∧ w'.cell? ⟨q, 15, none⟩ = some (.int .i64 0))) (by kernel_rfl) ?_ ?_
    · ((try dsimp only); go_keep)
    intro hHeld
    refine rg_take 0 (v := ?_) rfl (by kernel_rfl) (by kernel_rfl) (by kernel_rfl) (fun _ _ _ h => h) (by rfl) (by assumption) ?_ ?_
    rotate_left 1
    · (intro w hSw; (try dsimp only at hSw); go_simp; with_reducible rfl)
    try simp only [Act.put, List.setIfInBounds_toArray, List.set_cons_zero, List.set_cons_succ]
    refine rg_take 1 (v := ?_) rfl (by kernel_rfl) (by kernel_rfl) (by kernel_rfl) (fun _ _ _ h => h) (by rfl) (by assumption) ?_ ?_
    rotate_left 1
    · (intro w hSw; (try dsimp only at hSw); go_simp; with_reducible rfl)
    try simp only [Act.put, List.setIfInBounds_toArray, List.set_cons_zero, List.set_cons_succ]
    refine rg_take 2 (v := ?_) rfl (by kernel_rfl) (by kernel_rfl) (by kernel_rfl) (fun _ _ _ h => h) (by rfl) (by assumption) ?_ ?_
    rotate_left 1
    · (intro w hSw; (try dsimp only at hSw); go_simp; with_reducible rfl)
    try simp only [Act.put, List.setIfInBounds_toArray, List.set_cons_zero, List.set_cons_succ]
    refine rg_take 3 (v := ?_) rfl (by kernel_rfl) (by kernel_rfl) (by kernel_rfl) (fun _ _ _ h => h) (by rfl) (by assumption) ?_ ?_
    rotate_left 1
    · (intro w hSw; (try dsimp only at hSw); go_simp; with_reducible rfl)
    try simp only [Act.put, List.setIfInBounds_toArray, List.set_cons_zero, List.set_cons_succ]
    refine rg_take 4 (v := ?_) rfl (by kernel_rfl) (by kernel_rfl) (by kernel_rfl) (fun _ _ _ h => h) (by rfl) (by assumption) ?_ ?_
    rotate_left 1
    · (intro w hSw; (try dsimp only at hSw); go_simp; with_reducible rfl)
    try simp only [Act.put, List.setIfInBounds_toArray, List.set_cons_zero, List.set_cons_succ]
    refine rg_take 5 (v := ?_) rfl (by kernel_rfl) (by kernel_rfl) (by kernel_rfl) (fun _ _ _ h => h) (by rfl) (by assumption) ?_ ?_
    rotate_left 1
    · (intro w hSw; (try dsimp only at hSw); go_simp; with_reducible rfl)
    try simp only [Act.put, List.setIfInBounds_toArray, List.set_cons_zero, List.set_cons_succ]
    refine rg_take 6 (v := ?_) rfl (by kernel_rfl) (by kernel_rfl) (by kernel_rfl) (fun _ _ _ h => h) (by rfl) (by assumption) ?_ ?_
    rotate_left 1
    · (intro w hSw; (try dsimp only at hSw); go_simp; with_reducible rfl)
    try simp only [Act.put, List.setIfInBounds_toArray, List.set_cons_zero, List.set_cons_succ]
    refine rg_take 7 (v := ?_) rfl (by kernel_rfl) (by kernel_rfl) (by kernel_rfl) (fun _ _ _ h => h) (by rfl) (by assumption) ?_ ?_
    rotate_left 1
    · (intro w hSw; (try dsimp only at hSw); go_simp; with_reducible rfl)
    try simp only [Act.put, List.setIfInBounds_toArray, List.set_cons_zero, List.set_cons_succ]
    refine rg_take 8 (v := ?_) rfl (by kernel_rfl) (by kernel_rfl) (by kernel_rfl) (fun _ _ _ h => h) (by rfl) (by assumption) ?_ ?_
    rotate_left 1
    · (intro w hSw; (try dsimp only at hSw); go_simp; with_reducible rfl)
    try simp only [Act.put, List.setIfInBounds_toArray, List.set_cons_zero, List.set_cons_succ]
    refine wpAnyH_ready (rs := [9]) (by kernel_rfl) (by simp) ?_
    refine rg_step 9 rfl (fun K hK => ?_) (AllReadyH.nil)
    go_simp
    (go_at_call 60; refine HBe.out.mono ?_; rintro _ w8 ⟨rfl, hb8'⟩; have hb8 : Below v2.heap.size v2 w8 := below_of_drew hb8'; have l0 := cell_keep hb8 d0; have l1 := cell_keep hb8 g0; have l2 := cell_keep hb8 g1; have l3 := cell_keep hb8 g2; have l4 := cell_keep hb8 g3; have l5 := cell_keep hb8 g4; obtain ⟨⟨m0, m1, m2, m3, m4, m5, m6⟩, f0, f1, f2, f3, f4, f5, f6⟩ := cells7 (blk_keep hb8 HVA.out))
    go_wp2_with fail
    refine hK.out _ _ ?_ ?_
    · ((try dsimp only); go_keep)
    clear hHeld hK K
    intro hHeld
    try simp only [Act.put, List.setIfInBounds_toArray, List.set_cons_zero, List.set_cons_succ]
    refine rg_take 10 (v := ?_) rfl (by kernel_rfl) (by kernel_rfl) (by kernel_rfl) (fun _ _ _ h => h) (by rfl) (by assumption) ?_ ?_
    rotate_left 1
    · (intro w hSw; (try dsimp only at hSw); go_simp; with_reducible rfl)
    try simp only [Act.put, List.setIfInBounds_toArray, List.set_cons_zero, List.set_cons_succ]
    refine wpAnyH_ready (rs := [11]) (by kernel_rfl) (by simp) ?_
    refine rg_step 11 rfl (fun K hK => ?_) (AllReadyH.nil)
    go_simp
    refine hK.out _ _ ?_ ?_
    · ((try dsimp only); go_keep)
    clear hHeld hK K
    intro hHeld
    try simp only [Act.put, List.setIfInBounds_toArray, List.set_cons_zero, List.set_cons_succ]
    refine wpAnyH_done (by kernel_rfl) ?_ _
    obtain ⟨b, hb⟩ : ∃ b, bestGo ([0, 0, 0, 0, 0].set me.toNat rd) g.mem 5 = b := ⟨_, rfl⟩
    rw [hb]
    have Hb := Lib.hid hb
    clear hb
    obtain ⟨V9, hV9⟩ : ∃ V9, w8.setCell ⟨A, 6, none⟩ (.int .i64 b) = V9 := ⟨_, rfl⟩
    have hAV := blk_set (k := 6) (blk_keep hb8 HVA.out) (.int .i64 b)
    rw [hV9] at hAV ⊢
    have hb9 : Below R w V9 := by
      rw [← hV9]
      exact (hbV'.trans (hb8.mono (by have := hbV.size; omega))).setCell (by show R ≤ A; omega) _
    have hRV : V9.heap[R]? = some (.cells #[.int .i64 0, .int .i64 0, .int .i64 0, .int .i64 0, .int .i64 0, .int .i64 0, .int .i64 0] 48 (0, 0)) := by
      rw [← hV9, Below.heap_setCell _ _ _ _ (by show R ≠ A; omega)]
      exact blk_keep hb8 (blk_keep hbV HRW.out)
    clear hV9 m0 m1 m2 m3 m4 m5 m6 f0 f1 f2 f3 f4 f5 f6 l0 l1 l2 l3 l4 l5 d0 g0 g1 g2 g3 g4 HBe hb8'
    obtain ⟨⟨m0, m1, m2, m3, m4, m5, m6⟩, -⟩ := cells7 hAV
    obtain ⟨⟨r0, r1, r2, r3, r4, r5, r6⟩, f0, f1, f2, f3, f4, f5, f6⟩ := cells7 hRV
    go_wp2_with fail
    refine bodyPost_ret (v := .agg #[.int .i64 term, .int .i64 vo, .int .i64 3, .int .i64 me, .int .i64 c, .int .i64 g.mem, .int .i64 b]) (by simp [results, Tryz.results12, go_sem, r0, r1, r2, r3, r4, r5, r6]) rfl ⟨by rw [Hb.out], ?_⟩
    rw [HR.out]
    exact ((((((hb9.setCell (Nat.le_refl _) _).setCell (Nat.le_refl _) _).setCell (Nat.le_refl _) _).setCell (Nat.le_refl _) _).setCell (Nat.le_refl _) _).setCell (Nat.le_refl _) _).setCell (Nat.le_refl _) _
end Go.Proofs.YtahagecdebadfaaGreat

namespace Go.Proofs.YtahagecdebadfaaGreat
open Go.RowKit

theorem epack_no {S : Nat → Prop} (e : Ent) (y : Value) (w : World) (hp : Bytes S w y e.cmd) (hr : rightB e = false) :
    Calls Tryz.prog 73 #[.agg #[.int .i64 e.kind, .int .i64 e.term, y]] w fun r w' => r = .returned (.tuple #[.slice none 0 0, .int .i64 1]) ∧ Below w.heap.size w w' := by
  obtain ⟨k, t, cmd⟩ := e
  simp only at hp ⊢
  have hb0 := fun o => box_below w o
  have HB := Lib.hid hb0
  have hR := fun o => right_any k t y cmd _ (hp.keep (box_below w o))
  rw [hr] at hR
  have HR := Lib.hid hR
  obtain ⟨A, c, rfl⟩ := hp.slice
  clear hb0 hR hr hp
  go_enter Tryz.func73, Tryz.ntmps73
  go_wp2_with (go_at_call 86; refine (HR.out _).mono ?_; rintro _ w1 ⟨rfl, hb⟩)
  go_ret2
  exact ⟨rfl, below_then (HB.out _) hb⟩

set_option maxHeartbeats 1000000 in
theorem epack_yes {S : Nat → Prop} (e : Ent) (y : Value) (w : World) (hp : Bytes S w y e.cmd) (hr : rightB e = true) :
    Calls Tryz.prog 73 #[.agg #[.int .i64 e.kind, .int .i64 e.term, y]] w fun r w' => ∃ v, r = .returned (.tuple #[v, .int .i64 0]) ∧ Bytes (w.heap.size ≤ ·) w' v (encE e) ∧ Below w.heap.size w w' := by
  obtain ⟨k0, k2, t1, t2, cl⟩ := rightB_facts hr
  obtain ⟨k, t, cmd⟩ := e
  simp only at k0 k2 t1 t2 cl hp ⊢
  have hb0 := fun o => box_below w o
  have HB := Lib.hid hb0
  have hR := fun o => right_any k t y cmd _ (hp.keep (box_below w o))
  rw [hr] at hR
  have HR := Lib.hid hR
  obtain ⟨A, c, rfl⟩ := hp.slice
  have hblkE := blk_new w (.cells #[.int .i64 k, .int .i64 t, .slice A cmd.length c] 113)
  obtain ⟨a0, a1, a2, _, _, _⟩ := cells3 hblkE
  have Hp := Lib.hid hp
  have Hr := Lib.hid (And.intro hr cl)
  clear hb0 hR hr hp hblkE cl
  go_enter Tryz.func73, Tryz.ntmps73
  go_wp2_with (go_at_call 86; refine (HR.out _).mono ?_; rintro _ w1 ⟨rfl, hb⟩; have b0 := cell_keep hb a0; have b1 := cell_keep hb a1; have b2 := cell_keep hb a2)
  refine (newWriter_any w1).mono ?_
  rintro _ _ ⟨rfl, rfl⟩
  have hbw := box_below w1 (.cells #[.slice none 0 0, .int .i64 0] 176)
  have hbl := box_below (w1.alloc (.cells #[.slice none 0 0, .int .i64 0] 176)) (.cells #[.pointer (some ⟨w1.heap.size, 0, none⟩)] 156)
  have h2 := (wrS_new 176 w1).grow hbl
  have hL := cells1 (blk_new (w1.alloc (.cells #[.slice none 0 0, .int .i64 0] 176)) (.cells #[.pointer (some ⟨w1.heap.size, 0, none⟩)] 156))
  rw [World.size_alloc] at hL
  have e0 := cell_keep hbl (cell_keep hbw b0)
  have e1 := cell_keep hbl (cell_keep hbw b1)
  have e2 := cell_keep hbl (cell_keep hbw b2)
  have hb2 : Below w.heap.size w ((w1.alloc (.cells #[.slice none 0 0, .int .i64 0] 176)).alloc (.cells #[.pointer (some ⟨w1.heap.size, 0, none⟩)] 156)) := below_alloc (below_alloc (below_then (HB.out _) hb) _) _
  have hz2 : ((w1.alloc (.cells #[.slice none 0 0, .int .i64 0] 176)).alloc (.cells #[.pointer (some ⟨w1.heap.size, 0, none⟩)] 156)).heap.size = w1.heap.size + 2 := by simp
  have hz1 : (w1.alloc (.cells #[.slice none 0 0, .int .i64 0] 176)).heap.size = w1.heap.size + 1 := by simp
  have hww : w.heap.size + 1 ≤ w1.heap.size := by have := hb.size; simpa using this
  rw [hz1, hz2] at h2
  have hq := Hp.out.keep hb2
  obtain ⟨W2, hW2⟩ : ∃ W2, (w1.alloc (.cells #[.slice none 0 0, .int .i64 0] 176)).alloc (.cells #[.pointer (some ⟨w1.heap.size, 0, none⟩)] 156) = W2 := ⟨_, rfl⟩
  rw [hW2] at h2 hL e0 e1 e2 hb2 hz2 hq
  obtain ⟨l0, lf⟩ := hL
  obtain ⟨S2, hS2⟩ : ∃ S2 : Nat → Prop, S2 = fun b => b < w1.heap.size ∨ w1.heap.size + 1 ≤ b ∧ b < w1.heap.size + 2 := ⟨_, rfl⟩
  rw [← hS2] at h2
  have hSL : S2 (w1.heap.size + 1) := by rw [hS2]; exact .inr ⟨Nat.le_refl _, by omega⟩
  have hS2w : ∀ b, S2 b → b < W2.heap.size := by
    intro b hb
    rw [hS2] at hb
    rw [hz2]
    rcases hb with hb | hb <;> omega
  have hlow : ∀ b, b < w.heap.size → S2 b := fun b hb => by rw [hS2]; exact .inl (by omega)
  have hq2 : Bytes S2 W2 (.slice A cmd.length c) cmd := (Hp.out.mono (T := S2) fun b hlt _ => hlow b hlt).keep hb2
  have HL := Lib.hid hSL
  have HB2 := Lib.hid hb2
  have HLow := Lib.hid hlow
  have Hhz := Lib.hid (And.intro hz2 hww)
  have HC := Lib.hid (lentry_ok S2 w1.heap.size w1.heap.size [] ⟨k, t, cmd⟩ _ W2 h2 hS2w hq2 Hr.out.1 (by simp))
  clear h2 hS2w hq2 hSL hS2 hlow hbw hbl hb2 hq hz2 hww hz1 lf hb b0 b1 b2
  go_wp2_with fail
  clear hW2
  refine HC.out.mono ?_
  rintro _ w3 ⟨⟨v3, rfl⟩, hw3, hsm3, hbl3⟩
  have l1 := hsm3.cell HL.out l0
  have hend := wend_ok w1.heap.size w1.heap.size _ w3 hw3.at_ (by simp [encE_length]; have := Hr.out.2; omega)
  have hb3 : Below w.heap.size w w3 := HB2.out.trans (hbl3.mono (by have := Hhz.out; omega))
  have Hend := Lib.hid hend
  have HB3 := Lib.hid hb3
  clear hw3 hsm3 hbl3 hend hb3
  go_wp2_with fail
  refine Hend.out.mono ?_
  rintro _ w4 ⟨v4, rfl, hy4, hb4⟩
  obtain ⟨A4, c4, rfl⟩ := hy4.slice
  have HY := Lib.hid (hy4.mono (T := (w.heap.size ≤ ·)) fun b _ h => Nat.le_trans HB3.out.size h)
  have HB4 := Lib.hid (below_then HB3.out hb4)
  clear hy4 hb4
  go_wp2_with fail
  go_ret2
  exact ⟨_, rfl, by simpa using HY.out, HB4.out⟩

end Go.Proofs.YtahagecdebadfaaGreat

namespace Go.Proofs.YtahagecdebadfaaGreat
open Go.RowKit

set_option maxHeartbeats 4000000 in
theorem roffer_write (p q : Nat) (me term c rd n qu : Int) (x2 x7 x9 x11 cv : Value) (xs : List UInt8) (g : Lg) (w : World) (h : Alone p q me term c rd n qu x2 x7 x9 x11 g w) (hg : g.Good)
    (hv : Bytes (fun b => ¬ b = p ∧ ¬ b = q) w cv xs) (hlen : xs.length ≤ 4080) (ht1 : 1 ≤ term) (ht2 : term ≤ 1099511627776) (ht3 : g.topTerm ≤ term) (hroom : g.ents.length + 1 ≤ 4096)
    (hm : 0 ≤ me) (hm' : me < 5) (hhas : hasB g.mem me.toNat = true) (hno : ∀ i : Nat, i < 5 → (i : Int) ≠ me → hasB g.mem i = false) :
    Calls Tryz.prog 18 #[.pointer (some ⟨p, 0, none⟩), .int .i64 1, cv] w fun e w' => e = .returned (.tuple #[.int .i64 (g.top + 1), .slice none 0 0, .int .i64 0]) ∧
      Alone p q me term (newCommit (g.adds [⟨1, term, xs⟩]) term c me.toNat [0, 0, 0, 0, 0]) rd n qu x2 x7 x9 x11 (g.adds [⟨1, term, xs⟩]) w' ∧ Sm (fun b => ¬ b = p ∧ ¬ b = q) w w' := by
  obtain ⟨lv, hpq, h, hq, hL⟩ := h
  go_enter Tryz.func18, Tryz.ntmps18
  go_wp2_with fail
  obtain ⟨W1, hW1⟩ : ∃ W1, w.alloc (.cells #[.pointer (some ⟨p, 0, none⟩)] 32) = W1 := ⟨_, rfl⟩
  have hbW : Below w.heap.size w W1 := by rw [← hW1]; exact box_below w _
  have hplt := (Array.getElem?_eq_some_iff.1 h).1
  have hqlt := (Array.getElem?_eq_some_iff.1 hq).1
  have hrp : ¬ w.heap.size = p := by omega
  have hrq : ¬ w.heap.size = q := by omega
  have r1 : W1.cell? ⟨w.heap.size, 0, none⟩ = some (.pointer (some ⟨p, 0, none⟩)) := by rw [← hW1]; exact (cells1 (blk_new w _)).1
  have hp1 := blk_keep hbW h
  have Hq1 := Lib.hid (blk_keep hbW hq)
  have HL1 := Lib.hid (hL.keep hbW)
  have Hv1 := Lib.hid (hv.keep hbW)
  rw [hW1]
  clear hW1 h hq hL hv
  obtain ⟨R, hR⟩ : ∃ R, w.heap.size = R := ⟨_, rfl⟩
  have HR := Lib.hid hR
  rw [hR] at r1 hrp hrq hbW hplt hqlt ⊢
  clear hR
  have Hp1 := Lib.hid hp1
  refine (rleads_yes p _ _ _ _ _ _ _ _ _ _ _ _ _ W1 hp1).mono ?_
  rintro e w2 ⟨rfl, hw2'⟩
  clear hp1
  subst hw2'
  obtain ⟨W3, hW3⟩ : ∃ W3, w2.alloc (.cells #[.pointer (some ⟨q, 0, none⟩)] 95) = W3 := ⟨_, rfl⟩
  have hb3 : Below w2.heap.size w2 W3 := by rw [← hW3]; exact box_below w2 _
  obtain ⟨X, hX⟩ : ∃ X, w2.heap.size = X := ⟨_, rfl⟩
  have x3 : W3.cell? ⟨X, 0, none⟩ = some (.pointer (some ⟨q, 0, none⟩)) := by rw [← hW3, ← hX]; exact (cells1 (blk_new w2 _)).1
  have hXR : R < X := by rw [← hX]; exact block_lt r1
  have hxp : ¬ X = p := by omega
  have hxq : ¬ X = q := by omega
  have r3 := cell_keep hb3 r1
  have Hp3 := Lib.hid (blk_keep hb3 Hp1.out)
  have Hq3 := Lib.hid (blk_keep hb3 Hq1.out)
  have HL3 := Lib.hid (HL1.out.keep hb3)
  have Hv3 := Lib.hid (Hv1.out.keep hb3)
  obtain ⟨⟨c0, c1, c2, c3, c4, c5, c6, c7, c8, c9, c10, c11, c12⟩, cf⟩ := cells13 Hp3.out
  obtain ⟨A, vc, rfl⟩ := Hv3.out.slice
  have hX3 : W3.heap.size = X + 1 := by rw [← hW3, ← hX]; simp
  go_wp2_with fail
  obtain ⟨W4, hW4⟩ : ∃ W4, W3.alloc (.cells #[.int .i64 1, .int .i64 term, .slice A xs.length vc] 113) = W4 := ⟨_, rfl⟩
  have hb4 : Below W3.heap.size W3 W4 := by rw [← hW4]; exact box_below W3 _
  have hn4 : W4.heap[W3.heap.size]? = some (.cells #[.int .i64 1, .int .i64 term, .slice A xs.length vc] 113 (0, 0)) := by rw [← hW4]; exact blk_new W3 _
  rw [hW4]
  clear hW3 hW4 c0 c1 c2 c3 c4 c5 c6 c7 c8 c9 c10 c11 c12 cf
  have hok : okSeq g.topTerm [⟨1, term, xs⟩] = true := by simp [okSeq, rightB, mayB]; omega
  have hrt : rightB ⟨1, term, xs⟩ = true := by simp [rightB, mayB]; omega
  refine (epack_yes ⟨1, term, xs⟩ (.slice A xs.length vc) W4 (Hv3.out.keep hb4) hrt).mono ?_
  rintro e w5 ⟨pv, rfl, -, hb5⟩
  have hb35 := below_then hb4 hb5
  obtain ⟨⟨c0, c1, c2, c3, c4, c5, c6, c7, c8, c9, c10, c11, c12⟩, cf⟩ := cells13 (blk_keep hb35 Hp3.out)
  have cf4 := cf 4
  have r5 := cell_keep hb35 r3
  have x5 := cell_keep hb35 x3
  obtain ⟨n0, n1, n2, -, -, -⟩ := cells3 (blk_keep hb5 hn4)
  have Hv5 := Lib.hid (Hv3.out.keep hb35)
  have Hp5 := Lib.hid (blk_keep hb35 Hp3.out)
  have Hq5 := Lib.hid (blk_keep hb35 Hq3.out)
  have HL5 := Lib.hid (HL3.out.keep hb35)
  clear r3 x3 r1 hn4 hrt
  rw [hX3] at n0 n1 n2
  go_wp2_with fail
  have hlt5 : p < w5.heap.size ∧ q < w5.heap.size := ⟨block_lt c0, (Array.getElem?_eq_some_iff.1 Hq5.out).1⟩
  have HW2 := Lib.hid fun (V : World) (hV : Below w5.heap.size w5 V) (lw : Value) (hl : Ents (fun b => ¬ b = p ∧ ¬ b = q) V lw [⟨1, term, xs⟩]) => ((with_room lv g lw [⟨1, term, xs⟩] V (HL5.out.keep hV) hg hl (by simpa using hroom)).mono (fun e w' (h : _ ∧ _) => show ∃ q2, e = .returned (.tuple #[q2, .int .i64 0]) ∧ LogAt (fun b => ¬ b = p ∧ ¬ b = q) w' q2 (g.adds [⟨1, term, xs⟩]).parts ∧ Below V.heap.size V w' from by
    rcases h.1 with ⟨-, q2, he, hl2⟩ | ⟨hno2, -⟩
    · refine ⟨q2, he, hl2.mono (fun b _ hs => ?_), h.2⟩
      have := hV.size
      rcases hs with hs | hs
      · exact hs
      · exact ⟨by omega, by omega⟩
    · rw [hok] at hno2; cases hno2))
  have ht64 : in64 term := ⟨by omega, by omega⟩
  have Hen : ∀ V : World, V.heap.size = w5.heap.size → Below w5.heap.size w5 V → Ents (fun b => ¬ b = p ∧ ¬ b = q) (V.alloc (.cells #[.int .i64 1, .int .i64 term, .slice A xs.length vc] 113)) (.slice (some ⟨w5.heap.size, 0, none⟩) 1 1) [⟨1, term, xs⟩] := by
    intro V hV hb
    have hn := blk_new V (.cells #[.int .i64 1, .int .i64 term, .slice A xs.length vc] 113)
    rw [hV] at hn
    exact ⟨_, RowAt.of_blk (cs := [.int .i64 1, .int .i64 term, .slice A xs.length vc]) hn ⟨by omega, by omega⟩ rfl (by decide), ⟨_, [], rfl, ⟨by show (-9223372036854775808 : Int) ≤ 1; omega, by show (1 : Int) ≤ 9223372036854775807; omega⟩, ht64, (Hv5.out.keep hb).keep (box_below V _), rfl⟩⟩
  have HEn := Lib.hid Hen
  clear Hen hX3
  have hXn : ¬ X + 1 = p := by omega
  refine wp_region_held_drew (S := (fun w' => w'.cell? ⟨R, 0, none⟩ = some (.pointer (some ⟨p, 0, none⟩)) ∧ w'.cell? ⟨p, 4, none⟩ = some lv ∧ w'.cell? ⟨X + 1, 0, none⟩ = some (.int .i64 1) ∧ w'.cell? ⟨X + 1, 1, none⟩ = some (.int .i64 term) ∧ w'.cell? ⟨X + 1, 2, none⟩ = some (.slice A xs.length vc))) (by kernel_rfl) ?_ ?_
  · ((try dsimp only); go_keep)
  intro hHeld
  refine rg_take 0 (v := ?_) rfl (by kernel_rfl) (by kernel_rfl) (by kernel_rfl) (fun _ _ _ h => h) (by rfl) (by assumption) ?_ ?_
  rotate_left 1
  · (intro w hSw; (try dsimp only at hSw); go_simp; with_reducible rfl)
  try simp only [Act.put, List.setIfInBounds_toArray, List.set_cons_zero, List.set_cons_succ]
  refine rg_take 1 (v := ?_) rfl (by kernel_rfl) (by kernel_rfl) (by kernel_rfl) (fun _ _ _ h => h) (by rfl) (by assumption) ?_ ?_
  rotate_left 1
  · (intro w hSw; (try dsimp only at hSw); go_simp; with_reducible rfl)
  try simp only [Act.put, List.setIfInBounds_toArray, List.set_cons_zero, List.set_cons_succ]
  refine rg_take 2 (v := ?_) rfl (by kernel_rfl) (by kernel_rfl) (by kernel_rfl) (fun _ _ _ h => h) (by rfl) (by assumption) ?_ ?_
  rotate_left 1
  · (intro w hSw; (try dsimp only at hSw); go_simp; with_reducible rfl)
  try simp only [Act.put, List.setIfInBounds_toArray, List.set_cons_zero, List.set_cons_succ]
  refine rg_take 3 (v := ?_) rfl (by kernel_rfl) (by kernel_rfl) (by kernel_rfl) (fun _ _ _ h => h) (by rfl) (by assumption) ?_ ?_
  rotate_left 1
  · (intro w hSw; (try dsimp only at hSw); go_simp; with_reducible rfl)
  try simp only [Act.put, List.setIfInBounds_toArray, List.set_cons_zero, List.set_cons_succ]
  refine rg_take 4 (v := ?_) rfl (by kernel_rfl) (by kernel_rfl) (by kernel_rfl) (fun _ _ _ h => h) (by rfl) (by assumption) ?_ ?_
  rotate_left 1
  · (intro w hSw; (try dsimp only at hSw); go_simp; with_reducible rfl)
  try simp only [Act.put, List.setIfInBounds_toArray, List.set_cons_zero, List.set_cons_succ]
  refine wpAnyH_ready (rs := [5]) (by kernel_rfl) (by simp) ?_
  refine rg_step 5 rfl (fun K hK => ?_) (AllReadyH.nil)
  go_simp
  refine hK.out _ _ ?_ ?_
  · ((try dsimp only); go_keep)
  clear hHeld hK K
  intro hHeld
  try simp only [Act.put, List.setIfInBounds_toArray, List.set_cons_zero, List.set_cons_succ]
  refine wpAnyH_ready (rs := [6]) (by kernel_rfl) (by simp) ?_
  refine rg_step 6 rfl (fun K hK => ?_) (AllReadyH.nil)
  go_simp
  (go_at_call 30; refine (HW2.out _ (by exact (box_below w5 _).drew) _ (by exact (HEn.out w5 rfl (Below.refl _ _)).keepM ((Sm.refl _ _).drew))).mono ?_; rintro _ w6 ⟨q2, rfl, hlog, hb6⟩; have z0 := cell_keep hb6 (cell_keep (box_below w5 _) r5); have z1 := cell_keep hb6 (cell_keep (box_below w5 _) c4); have z2 := cell_keep hb6 (cell_keep (box_below w5 _) n0); have z3 := cell_keep hb6 (cell_keep (box_below w5 _) n1); have z4 := cell_keep hb6 (cell_keep (box_below w5 _) n2))
  go_wp2_with fail
  refine hK.out _ _ ?_ ?_
  · ((try dsimp only); go_keep)
  clear hHeld hK K
  intro hHeld
  try simp only [Act.put, List.setIfInBounds_toArray, List.set_cons_zero, List.set_cons_succ]
  refine rg_take 7 (v := ?_) rfl (by kernel_rfl) (by kernel_rfl) (by kernel_rfl) (fun _ _ _ h => h) (by rfl) (by assumption) ?_ ?_
  rotate_left 1
  · (intro w hSw; (try dsimp only at hSw); go_simp; with_reducible rfl)
  try simp only [Act.put, List.setIfInBounds_toArray, List.set_cons_zero, List.set_cons_succ]
  refine rg_take 8 (v := ?_) rfl (by kernel_rfl) (by kernel_rfl) (by kernel_rfl) (fun _ _ _ h => h) (by rfl) (by assumption) ?_ ?_
  rotate_left 1
  · (intro w hSw; (try dsimp only at hSw); go_simp; with_reducible rfl)
  try simp only [Act.put, List.setIfInBounds_toArray, List.set_cons_zero, List.set_cons_succ]
  refine rg_take 9 (v := ?_) rfl (by kernel_rfl) (by kernel_rfl) (by kernel_rfl) (fun _ _ _ h => h) (by rfl) (by assumption) ?_ ?_
  rotate_left 1
  · (intro w hSw; (try dsimp only at hSw); go_simp; with_reducible rfl)
  try simp only [Act.put, List.setIfInBounds_toArray, List.set_cons_zero, List.set_cons_succ]
  refine rg_take 10 (v := ?_) rfl (by kernel_rfl) (by kernel_rfl) (by kernel_rfl) (fun _ _ _ h => h) (by rfl) (by assumption) ?_ ?_
  rotate_left 1
  · (intro w hSw; (try dsimp only at hSw); go_simp; with_reducible rfl)
  try simp only [Act.put, List.setIfInBounds_toArray, List.set_cons_zero, List.set_cons_succ]
  refine rg_take 11 (v := ?_) rfl (by kernel_rfl) (by kernel_rfl) (by kernel_rfl) (fun _ _ _ h => h) (by rfl) (by assumption) ?_ ?_
  rotate_left 1
  · (intro w hSw; (try dsimp only at hSw); go_simp; with_reducible rfl)
  try simp only [Act.put, List.setIfInBounds_toArray, List.set_cons_zero, List.set_cons_succ]
  refine wpAnyH_done (by kernel_rfl) ?_ _
  have hb56 : Below w5.heap.size w5 w6 := below_then (box_below w5 _).drew hb6
  have Hp6 := Lib.hid (blk_keep hb56 Hp5.out)
  have Hq6 := Lib.hid (blk_keep hb56 Hq5.out)
  have x6 := cell_keep hb56 x5
  have bf4 := (cells13 Hp6.out).2 4
  have HL6 := Lib.hid hlog
  obtain ⟨qb, qs, qv, rfl, -⟩ := id hlog
  have hg2 := (hg.adds [⟨1, term, xs⟩] hok (by simpa using hroom)).1
  have htop2 : (g.adds [⟨1, term, xs⟩]).top = g.top + 1 := by
    obtain ⟨-, he, -, ha, -⟩ := hg.adds [⟨1, term, xs⟩] hok (by simpa using hroom)
    unfold Lg.top; rw [he, ha]; simp; omega
  have r7 := fun u => ((Sm.refl (fun b => ¬ b = p) w6).setCell (p := ⟨p, 4, none⟩) (fun h => h rfl) u).cell (p := ⟨R, 0, none⟩) hrp z0
  have x7' := fun u => ((Sm.refl (fun b => ¬ b = p) w6).setCell (p := ⟨p, 4, none⟩) (fun h => h rfl) u).cell (p := ⟨X, 0, none⟩) hxp x6
  obtain ⟨W7, hW7⟩ : ∃ W7, w6.setCell ⟨p, 4, none⟩ (.pointer (some ⟨qb, 0, none⟩)) = W7 := ⟨_, rfl⟩
  have hp7 : W7.heap[p]? = some (.cells #[.int .i64 me, .int .i64 term, x2, .int .i64 me, .pointer (some ⟨qb, 0, none⟩), .int .i64 c, .iface 95 (.pointer (some ⟨q, 0, none⟩)), x7, .int .i64 qu, x9, .slice none 0 0, x11, .slice none 0 0] 92 (0, 0)) := by rw [← hW7]; exact blk_set Hp6.out _
  have hs7 : Sm (fun b => ¬ b = p) w6 W7 := by rw [← hW7]; exact (Sm.refl _ _).setCell (fun h => h rfl) _
  have Hp7 := Lib.hid hp7
  have Hq7 := Lib.hid ((hs7.block q (fun e => hpq e.symm) (Array.getElem?_eq_some_iff.1 Hq6.out).1).trans Hq6.out)
  have HL7 := Lib.hid (HL6.out.keepM (hs7.mono (fun b hb => hb.1)))
  have r8 := r7 (.pointer (some ⟨qb, 0, none⟩))
  have x8 := x7' (.pointer (some ⟨qb, 0, none⟩))
  rw [hW7] at r8 x8
  have HT := Lib.hid fun V (hV : Below W7.heap.size W7 V) => top_run _ _ V (HL7.out.keep hV) hg2
  clear r7 x7' hlog HW2 HEn c0 c1 c2 c3 c4 c5 c6 c7 c8 c9 c10 c11 c12 cf cf4 z0 z1 z2 z3 r5 x5 n0 n1 n2 hp7
  go_wp2_with fail
  refine (HT.out _ (Below.refl _ _)).mono ?_
  rintro e w8 ⟨rfl, hb8⟩
  have r9 := cell_keep hb8 r8
  have x9' := cell_keep hb8 x8
  have Hp8 := Lib.hid (blk_keep hb8 Hp7.out)
  have Hq8 := Lib.hid (blk_keep hb8 Hq7.out)
  have HL8 := Lib.hid (HL7.out.keep hb8)
  have hhas2 : hasB (g.adds [⟨1, term, xs⟩]).mem me.toNat = true := by rw [hg.mem_add hok hroom]; exact hhas
  have Hhas2 := Lib.hid hhas2
  clear r8 x8 HT hhas2 hW7
  go_wp2_with fail
  refine (rcount_stay (S := fun b => ¬ b = p ∧ ¬ b = q) p q me term c 0 0 0 0 0 _ _ _ _ _ _ _ _ _ _ _ _ _ _ _ _ _ _ _ _ _ _ w8 Hp8.out Hq8.out HL8.out hg2 (fun h : ¬ p = p ∧ ¬ p = q => h.1 rfl) hm hm' Hhas2.out).mono ?_
  rintro e w9 ⟨rfl, hp9, hs9, -⟩
  have r10 := hs9.cell (p := ⟨R, 0, none⟩) hrp r9
  have x10 := hs9.cell (p := ⟨X, 0, none⟩) hxp x9'
  have Hq9 := Lib.hid ((hs9.block q (fun e => hpq e.symm) (Array.getElem?_eq_some_iff.1 Hq8.out).1).trans Hq8.out)
  have HL9 := Lib.hid (HL8.out.keepM (hs9.mono (fun b hb => hb.1)))
  have Hp9 := Lib.hid hp9
  clear hp9 r9 x9'
  go_wp2_with fail
  have hmem2 := hg2.mem
  have hmeq : (g.adds [⟨1, term, xs⟩]).mem = g.mem := by rw [hg.mem_add hok hroom]; rfl
  have HE := fun f => reach_none p me f (g.adds [⟨1, term, xs⟩]).mem (by omega) _ _ _ _ _ _ _ _ _ _ _ _ w9 Hp9.out hm hm' (fun V hV => rmembers_any p _ _ _ _ _ _ _ _ _ _ _ _ _ _ V (blk_keep hV Hp9.out) (HL9.out.keep hV) hg2) (by rw [hmeq]; exact hno)
  clear hmem2 hmeq
  refine (HE _).mono ?_
  rintro e w10 ⟨rfl, hb10⟩
  have r11 := cell_keep hb10 r10
  have Hp10 := Lib.hid (blk_keep hb10 Hp9.out)
  have Hq10 := Lib.hid (blk_keep hb10 Hq9.out)
  have HL10 := Lib.hid (HL9.out.keep hb10)
  clear HE r10 x10
  go_wp2_with fail
  refine (rposted_any p _ _ _ _ _ _ _ _ _ _ _ _ _ w10 Hp10.out).mono ?_
  rintro e w11 ⟨rfl, hw11⟩
  have hs11 : Sm (fun b => ¬ b = p) w10 w11 := by rw [hw11]; exact (Sm.refl _ w10).setCell (fun h => h rfl) _
  have hp11 := blk_set (k := 12) Hp10.out (.slice none 0 0)
  rw [← hw11] at hp11
  have Hp11 := Lib.hid hp11
  have hq11 := (hs11.block q (fun e => hpq e.symm) (Array.getElem?_eq_some_iff.1 Hq10.out).1).trans Hq10.out
  have hL11 := HL10.out.keepM (hs11.mono (fun b hb => hb.1))
  have hbw5 : Below R w w5 := ((hbW.trans (hb3.mono (by omega))).trans (hb35.mono (by have := hb3.size; omega)))
  have hall : Sm (fun b => ¬ b = p ∧ ¬ b = q) w w11 :=
    (((((Sm.of_below' (HR.out ▸ hbw5) _).trans (Sm.of_below' hb56 _)).trans (hs7.mono (fun b hb => hb.1))).trans (Sm.of_below' hb8 _)).trans (hs9.mono (fun b hb => hb.1))).trans ((Sm.of_below' hb10 _).trans (hs11.mono (fun b hb => hb.1)))
  have Hend := Lib.hid (show Alone p q me term (newCommit (g.adds [⟨1, term, xs⟩]) term c me.toNat [0, 0, 0, 0, 0]) rd n qu x2 x7 x9 x11 (g.adds [⟨1, term, xs⟩]) w11 from ⟨_, hpq, Hp11.out, hq11, hL11⟩)
  have Hall := Lib.hid hall
  clear hp11 hq11 hL11 hall hs11 hw11 r11
  go_wp2_with fail
  go_ret3
  exact ⟨by first | rfl | (simp only [← htop2]; rfl), Hend.out, Hall.out⟩
end Go.Proofs.YtahagecdebadfaaGreat

namespace Go.Proofs.YtahagecdebadfaaGreat
open Go.RowKit

theorem cells11' {w : World} {b : Nat} {x0 x1 x2 x3 x4 x5 x6 x7 x8 x9 x10 : Value} {t : TypeId} (h : w.heap[b]? = some (.cells #[x0, x1, x2, x3, x4, x5, x6, x7, x8, x9, x10] t (0, 0))) :
    (w.cell? ⟨b, 0, none⟩ = some x0 ∧ w.cell? ⟨b, 1, none⟩ = some x1 ∧ w.cell? ⟨b, 2, none⟩ = some x2 ∧ w.cell? ⟨b, 3, none⟩ = some x3 ∧ w.cell? ⟨b, 4, none⟩ = some x4 ∧ w.cell? ⟨b, 5, none⟩ = some x5 ∧
      w.cell? ⟨b, 6, none⟩ = some x6 ∧ w.cell? ⟨b, 7, none⟩ = some x7 ∧ w.cell? ⟨b, 8, none⟩ = some x8 ∧ w.cell? ⟨b, 9, none⟩ = some x9 ∧ w.cell? ⟨b, 10, none⟩ = some x10) ∧
    ∀ k, w.frozen? ⟨b, k, none⟩ = false := by
  refine ⟨by simp [World.cell?, h], fun k => ?_⟩
  simp [World.frozen?, h]
theorem infoMsg : (Tryz.prog.info? 42).map (fun i => (i.zero, i.size, i.bytes)) = some (some (.agg #[.int .i64 0, .int .i64 0, .int .i64 0, .int .i64 0, .int .i64 0, .int .i64 0, .int .i64 0, .int .i64 0, .bool false, .slice none 0 0, .slice none 0 0]), 11, 120) := by kernel_rfl
set_option maxHeartbeats 4000000 in
theorem rsend_first (p : Nat) (kind dst me term a1 a2 a3 a4 : Int) (ye : Bool) (lA dA : Option Addr) (ln lc dn dc : Nat) (x2 x3 x4 x5 x6 x7 x8 x9 x10 x11 : Value) (b0 b1 b2 b3 : Int) (w : World)
    (h : w.heap[p]? = some (.cells #[.int .i64 me, .int .i64 term, x2, x3, x4, x5, x6, x7, x8, x9, x10, x11, .slice none 0 0] 92 (0, 0))) :
    Calls Tryz.prog 78 #[.pointer (some ⟨p, 0, none⟩), .int .i64 kind, .int .i64 dst, .agg #[.int .i64 b0, .int .i64 b1, .int .i64 b2, .int .i64 b3, .int .i64 a1, .int .i64 a2, .int .i64 a3, .int .i64 a4, .bool ye, .slice lA ln lc, .slice dA dn dc]] w fun e w' => e = .returned (.tuple #[]) ∧
      ∃ v, w'.heap[p]? = some (.cells #[.int .i64 me, .int .i64 term, x2, x3, x4, x5, x6, x7, x8, x9, x10, x11, v] 92 (0, 0)) ∧ Sm (fun b => ¬ b = p) w w' := by
  have hplt := (Array.getElem?_eq_some_iff.1 h).1
  go_enter Tryz.func78, Tryz.ntmps78
  go_wp2_with fail
  obtain ⟨W1, hW1⟩ : ∃ W1, w.alloc (.cells #[.int .i64 b0, .int .i64 b1, .int .i64 b2, .int .i64 b3, .int .i64 a1, .int .i64 a2, .int .i64 a3, .int .i64 a4, .bool ye, .slice lA ln lc, .slice dA dn dc] 42) = W1 := ⟨_, rfl⟩
  have hb1 : Below w.heap.size w W1 := by rw [← hW1]; exact box_below w _
  have hp1 := blk_keep hb1 h
  obtain ⟨M, hM⟩ : ∃ M, w.heap.size = M := ⟨_, rfl⟩
  have hm1 : W1.heap[M]? = some (.cells #[.int .i64 b0, .int .i64 b1, .int .i64 b2, .int .i64 b3, .int .i64 a1, .int .i64 a2, .int .i64 a3, .int .i64 a4, .bool ye, .slice lA ln lc, .slice dA dn dc] 42 (0, 0)) := by rw [← hW1, ← hM]; exact blk_new w _
  have hMp : ¬ M = p := by omega
  rw [hW1]
  rw [hM]
  clear hW1
  obtain ⟨⟨c0, c1, -⟩, -⟩ := cells13 hp1
  obtain ⟨⟨m0, m1, m2, m3, m4, m5, m6, m7, m8, m9, m10⟩, mf⟩ := cells11' hm1
  have f0 := mf 0
  have f1 := mf 1
  have f2 := mf 2
  have f3 := mf 3
  refine wp_region_held_drew (S := (fun w' => w'.cell? ⟨p, 0, none⟩ = some (.int .i64 me) ∧ w'.cell? ⟨p, 1, none⟩ = some (.int .i64 term))) (by kernel_rfl) ?_ ?_
  · ((try dsimp only); go_keep)
  intro hHeld
  refine rg_take 0 (v := ?_) rfl (by kernel_rfl) (by kernel_rfl) (by kernel_rfl) (fun _ _ _ h => h) (by rfl) (by assumption) ?_ ?_
  rotate_left 1
  · (intro w hSw; (try dsimp only at hSw); go_simp; with_reducible rfl)
  try simp only [Act.put, List.setIfInBounds_toArray, List.set_cons_zero, List.set_cons_succ]
  refine rg_take 1 (v := ?_) rfl (by kernel_rfl) (by kernel_rfl) (by kernel_rfl) (fun _ _ _ h => h) (by rfl) (by assumption) ?_ ?_
  rotate_left 1
  · (intro w hSw; (try dsimp only at hSw); go_simp; with_reducible rfl)
  try simp only [Act.put, List.setIfInBounds_toArray, List.set_cons_zero, List.set_cons_succ]
  refine rg_take 2 (v := ?_) rfl (by kernel_rfl) (by kernel_rfl) (by kernel_rfl) (fun _ _ _ h => h) (by rfl) (by assumption) ?_ ?_
  rotate_left 1
  · (intro w hSw; (try dsimp only at hSw); go_simp; with_reducible rfl)
  try simp only [Act.put, List.setIfInBounds_toArray, List.set_cons_zero, List.set_cons_succ]
  refine rg_take 3 (v := ?_) rfl (by kernel_rfl) (by kernel_rfl) (by kernel_rfl) (fun _ _ _ h => h) (by rfl) (by assumption) ?_ ?_
  rotate_left 1
  · (intro w hSw; (try dsimp only at hSw); go_simp; with_reducible rfl)
  try simp only [Act.put, List.setIfInBounds_toArray, List.set_cons_zero, List.set_cons_succ]
  refine rg_take 4 (v := ?_) rfl (by kernel_rfl) (by kernel_rfl) (by kernel_rfl) (fun _ _ _ h => h) (by rfl) (by assumption) ?_ ?_
  rotate_left 1
  · (intro w hSw; (try dsimp only at hSw); go_simp; with_reducible rfl)
  try simp only [Act.put, List.setIfInBounds_toArray, List.set_cons_zero, List.set_cons_succ]
  refine rg_take 5 (v := ?_) rfl (by kernel_rfl) (by kernel_rfl) (by kernel_rfl) (fun _ _ _ h => h) (by rfl) (by assumption) ?_ ?_
  rotate_left 1
  · (intro w hSw; (try dsimp only at hSw); go_simp; with_reducible rfl)
  try simp only [Act.put, List.setIfInBounds_toArray, List.set_cons_zero, List.set_cons_succ]
  refine rg_take 6 (v := ?_) rfl (by kernel_rfl) (by kernel_rfl) (by kernel_rfl) (fun _ _ _ h => h) (by rfl) (by assumption) ?_ ?_
  rotate_left 1
  · (intro w hSw; (try dsimp only at hSw); go_simp; with_reducible rfl)
  try simp only [Act.put, List.setIfInBounds_toArray, List.set_cons_zero, List.set_cons_succ]
  refine rg_take 7 (v := ?_) rfl (by kernel_rfl) (by kernel_rfl) (by kernel_rfl) (fun _ _ _ h => h) (by rfl) (by assumption) ?_ ?_
  rotate_left 1
  · (intro w hSw; (try dsimp only at hSw); go_simp; with_reducible rfl)
  try simp only [Act.put, List.setIfInBounds_toArray, List.set_cons_zero, List.set_cons_succ]
  refine rg_take 8 (v := ?_) rfl (by kernel_rfl) (by kernel_rfl) (by kernel_rfl) (fun _ _ _ h => h) (by rfl) (by assumption) ?_ ?_
  rotate_left 1
  · (intro w hSw; (try dsimp only at hSw); go_simp; with_reducible rfl)
  try simp only [Act.put, List.setIfInBounds_toArray, List.set_cons_zero, List.set_cons_succ]
  refine rg_take 9 (v := ?_) rfl (by kernel_rfl) (by kernel_rfl) (by kernel_rfl) (fun _ _ _ h => h) (by rfl) (by assumption) ?_ ?_
  rotate_left 1
  · (intro w hSw; (try dsimp only at hSw); go_simp; with_reducible rfl)
  try simp only [Act.put, List.setIfInBounds_toArray, List.set_cons_zero, List.set_cons_succ]
  refine rg_take 10 (v := ?_) rfl (by kernel_rfl) (by kernel_rfl) (by kernel_rfl) (fun _ _ _ h => h) (by rfl) (by assumption) ?_ ?_
  rotate_left 1
  · (intro w hSw; (try dsimp only at hSw); go_simp; with_reducible rfl)
  try simp only [Act.put, List.setIfInBounds_toArray, List.set_cons_zero, List.set_cons_succ]
  refine wpAnyH_ready (rs := [11]) (by kernel_rfl) (by simp) ?_
  refine rg_step 11 rfl (fun K hK => ?_) (AllReadyH.nil)
  go_simp
  refine hK.out _ _ ?_ ?_
  · ((try dsimp only); go_keep)
  clear hHeld hK K
  intro hHeld
  try simp only [Act.put, List.setIfInBounds_toArray, List.set_cons_zero, List.set_cons_succ]
  refine rg_take 12 (v := ?_) rfl (by kernel_rfl) (by kernel_rfl) (by kernel_rfl) (fun _ _ _ h => h) (by rfl) (by assumption) ?_ ?_
  rotate_left 1
  · (intro w hSw; (try dsimp only at hSw); go_simp; with_reducible rfl)
  try simp only [Act.put, List.setIfInBounds_toArray, List.set_cons_zero, List.set_cons_succ]
  refine wpAnyH_ready (rs := [13]) (by kernel_rfl) (by simp) ?_
  refine rg_step 13 rfl (fun K hK => ?_) (AllReadyH.nil)
  go_simp
  refine hK.out _ _ ?_ ?_
  · ((try dsimp only); go_keep)
  clear hHeld hK K
  intro hHeld
  try simp only [Act.put, List.setIfInBounds_toArray, List.set_cons_zero, List.set_cons_succ]
  refine rg_take 14 (v := ?_) rfl (by kernel_rfl) (by kernel_rfl) (by kernel_rfl) (fun _ _ _ h => h) (by rfl) (by assumption) ?_ ?_
  rotate_left 1
  · (intro w hSw; (try dsimp only at hSw); go_simp; with_reducible rfl)
  try simp only [Act.put, List.setIfInBounds_toArray, List.set_cons_zero, List.set_cons_succ]
  refine wpAnyH_ready (rs := [15]) (by kernel_rfl) (by simp) ?_
  refine rg_step 15 rfl (fun K hK => ?_) (AllReadyH.nil)
  go_simp
  refine hK.out _ _ ?_ ?_
  · ((try dsimp only); go_keep)
  clear hHeld hK K
  intro hHeld
  try simp only [Act.put, List.setIfInBounds_toArray, List.set_cons_zero, List.set_cons_succ]
  refine rg_take 16 (v := ?_) rfl (by kernel_rfl) (by kernel_rfl) (by kernel_rfl) (fun _ _ _ h => h) (by rfl) (by assumption) ?_ ?_
  rotate_left 1
  · (intro w hSw; (try dsimp only at hSw); go_simp; with_reducible rfl)
  try simp only [Act.put, List.setIfInBounds_toArray, List.set_cons_zero, List.set_cons_succ]
  refine wpAnyH_ready (rs := [17]) (by kernel_rfl) (by simp) ?_
  refine rg_step 17 rfl (fun K hK => ?_) (AllReadyH.nil)
  go_simp
  refine hK.out _ _ ?_ ?_
  · ((try dsimp only); go_keep)
  clear hHeld hK K
  intro hHeld
  try simp only [Act.put, List.setIfInBounds_toArray, List.set_cons_zero, List.set_cons_succ]
  refine wpAnyH_done (by kernel_rfl) ?_ _
  obtain ⟨W2, hW2⟩ : ∃ W2, ((((W1.setCell ⟨M, 0, none⟩ (.int .i64 kind)).setCell ⟨M, 1, none⟩ (.int .i64 me)).setCell ⟨M, 2, none⟩ (.int .i64 dst)).setCell ⟨M, 3, none⟩ (.int .i64 term)).drew = W2 := ⟨_, rfl⟩
  have hs2 : Sm (fun b => ¬ b = M) W1 W2 := by rw [← hW2]; exact (((((Sm.refl _ W1).setCell (fun h => h rfl) _).setCell (fun h => h rfl) _).setCell (fun h => h rfl) _).setCell (fun h => h rfl) _).drew
  have hb2 : Below w.heap.size w W2 := by rw [← hW2]; exact ((((hb1.setCell (Nat.le_of_eq hM) _).setCell (Nat.le_of_eq hM) _).setCell (Nat.le_of_eq hM) _).setCell (Nat.le_of_eq hM) _).drew
  have hm2 : W2.heap[M]? = some (.cells #[.int .i64 kind, .int .i64 me, .int .i64 dst, .int .i64 term, .int .i64 a1, .int .i64 a2, .int .i64 a3, .int .i64 a4, .bool ye, .slice lA ln lc, .slice dA dn dc] 42 (0, 0)) := by rw [← hW2]; exact blk_set (blk_set (blk_set (blk_set hm1 _) _) _) _
  have hp2 := (hs2.block p (fun e => hMp e.symm) (Array.getElem?_eq_some_iff.1 hp1).1).trans hp1
  rw [hW2]
  clear hW2 c0 c1 m0 m1 m2 m3 m4 m5 m6 m7 m8 m9 m10 mf f0 f1 f2 f3
  have Hp2 := Lib.hid hp2
  obtain ⟨⟨-, -, -, -, -, -, -, -, -, -, -, -, c12⟩, -⟩ := cells13 hp2
  obtain ⟨⟨m0, m1, m2, m3, m4, m5, m6, m7, m8, m9, m10⟩, -⟩ := cells11' hm2
  clear hp2 hm2 hm1 hp1
  go_wp2_with fail
  obtain ⟨i0, hi, hz0, hz1, hz2⟩ := info_parts infoMsg
  have hp12 := (cells13 Hp2.out).2 12
  have hplt2 := (Array.getElem?_eq_some_iff.1 Hp2.out).1
  have hpM : ¬ p = M := fun e => hMp e.symm
  refine wp_region_held_drew (S := (fun w' => w'.cell? ⟨M, 0, none⟩ = some (.int .i64 kind) ∧ w'.cell? ⟨M, 1, none⟩ = some (.int .i64 me) ∧ w'.cell? ⟨M, 2, none⟩ = some (.int .i64 dst) ∧ w'.cell? ⟨M, 3, none⟩ = some (.int .i64 term) ∧ w'.cell? ⟨M, 4, none⟩ = some (.int .i64 a1) ∧ w'.cell? ⟨M, 5, none⟩ = some (.int .i64 a2) ∧ w'.cell? ⟨M, 6, none⟩ = some (.int .i64 a3) ∧ w'.cell? ⟨M, 7, none⟩ = some (.int .i64 a4) ∧ w'.cell? ⟨M, 8, none⟩ = some (.bool ye) ∧ w'.cell? ⟨M, 9, none⟩ = some (.slice lA ln lc) ∧ w'.cell? ⟨M, 10, none⟩ = some (.slice dA dn dc))) (by kernel_rfl) ?_ ?_
  · ((try dsimp only); go_keep)
  intro hHeld
  refine rg_take 0 (v := ?_) rfl (by kernel_rfl) (by kernel_rfl) (by kernel_rfl) (fun _ _ _ h => h) (by rfl) (by assumption) ?_ ?_
  rotate_left 1
  · (intro w hSw; (try dsimp only at hSw); go_simp; with_reducible rfl)
  try simp only [Act.put, List.setIfInBounds_toArray, List.set_cons_zero, List.set_cons_succ]
  refine rg_take 1 (v := ?_) rfl (by kernel_rfl) (by kernel_rfl) (by kernel_rfl) (fun _ _ _ h => h) (by rfl) (by assumption) ?_ ?_
  rotate_left 1
  · (intro w hSw; (try dsimp only at hSw); go_simp; with_reducible rfl)
  try simp only [Act.put, List.setIfInBounds_toArray, List.set_cons_zero, List.set_cons_succ]
  refine rg_take 2 (v := ?_) rfl (by kernel_rfl) (by kernel_rfl) (by kernel_rfl) (fun _ _ _ h => h) (by rfl) (by assumption) ?_ ?_
  rotate_left 1
  · (intro w hSw; (try dsimp only at hSw); go_simp; with_reducible rfl)
  try simp only [Act.put, List.setIfInBounds_toArray, List.set_cons_zero, List.set_cons_succ]
  refine rg_take 3 (v := ?_) rfl (by kernel_rfl) (by kernel_rfl) (by kernel_rfl) (fun _ _ _ h => h) (by rfl) (by assumption) ?_ ?_
  rotate_left 1
  · (intro w hSw; (try dsimp only at hSw); go_simp; with_reducible rfl)
  try simp only [Act.put, List.setIfInBounds_toArray, List.set_cons_zero, List.set_cons_succ]
  refine rg_take 5 (v := ?_) rfl (by kernel_rfl) (by kernel_rfl) (by kernel_rfl) (fun _ _ _ h => h) (by rfl) (by assumption) ?_ ?_
  rotate_left 1
  · (intro w hSw; (try dsimp only at hSw); go_simp; with_reducible rfl)
  try simp only [Act.put, List.setIfInBounds_toArray, List.set_cons_zero, List.set_cons_succ]
  refine wpAnyH_ready (rs := [4, 6]) (by kernel_rfl) (by simp) ?_
  refine rg_step 4 rfl (fun K hK => ?_) (rg_step 6 rfl (fun K hK => ?_) (AllReadyH.nil))
  focus
    go_simp
    refine hK.out _ _ ?_ ?_
    · ((try dsimp only); go_keep)
    clear hHeld hK K
    intro hHeld
    try simp only [Act.put, List.setIfInBounds_toArray, List.set_cons_zero, List.set_cons_succ]
    refine wpAnyH_ready (rs := [6]) (by kernel_rfl) (by simp) ?_
    refine rg_step 6 rfl (fun K hK => ?_) (AllReadyH.nil)
    go_simp
    refine hK.out _ _ ?_ ?_
    · ((try dsimp only); go_keep)
    clear hHeld hK K
    intro hHeld
    try simp only [Act.put, List.setIfInBounds_toArray, List.set_cons_zero, List.set_cons_succ]
    refine wpAnyH_ready (rs := [7]) (by kernel_rfl) (by simp) ?_
    refine rg_step 7 rfl (fun K hK => ?_) (AllReadyH.nil)
    (refine step_append_grows (by rfl) _ _ _ (by rfl) 42 i0 _ 11 120 Tryz.underlying25 hi hz0 hz1 hz2 rfl (by decide) none 0 0 [] (by rfl) (by simp) rfl (fun b' hb' => by cases hb') ⟨W2.heap.size, 0, none⟩ 1 1 [.int .i64 kind, .int .i64 me, .int .i64 dst, .int .i64 term, .int .i64 a1, .int .i64 a2, .int .i64 a3, .int .i64 a4, .bool ye, .slice lA ln lc, .slice dA dn dc] (by rfl) rfl (World.news_of_block (cs := #[.int .i64 kind, .int .i64 me, .int .i64 dst, .int .i64 term, .int .i64 a1, .int .i64 a2, .int .i64 a3, .int .i64 a4, .bool ye, .slice lA ln lc, .slice dA dn dc]) (t := 42) (fr := (0, 0)) (blk_new W2 _)) (by simp [Value.oneCell']) (by omega) (by simp [maxLen]) (by omega) ?_; intro v6 w6 hown6 hg6; obtain ⟨g6, cap6, rfl, hgb6, hgl6⟩ := hown6.form (by omega); have hb6 := below_of_grown hg6; have tc12 := cell_keep hb6 (cell_keep (box_below W2 _) c12); have tm0 := cell_keep hb6 (cell_keep (box_below W2 _) m0); have tm1 := cell_keep hb6 (cell_keep (box_below W2 _) m1); have tm2 := cell_keep hb6 (cell_keep (box_below W2 _) m2); have tm3 := cell_keep hb6 (cell_keep (box_below W2 _) m3); have tm4 := cell_keep hb6 (cell_keep (box_below W2 _) m4); have tm5 := cell_keep hb6 (cell_keep (box_below W2 _) m5); have tm6 := cell_keep hb6 (cell_keep (box_below W2 _) m6); have tm7 := cell_keep hb6 (cell_keep (box_below W2 _) m7); have tm8 := cell_keep hb6 (cell_keep (box_below W2 _) m8); have tm9 := cell_keep hb6 (cell_keep (box_below W2 _) m9); have tm10 := cell_keep hb6 (cell_keep (box_below W2 _) m10); have tf := ((hb6.frozen (p := ⟨p, 12, none⟩) (block_lt (cell_keep (box_below W2 _) c12))).trans (((box_below W2 _).frozen (p := ⟨p, 12, none⟩) (block_lt c12)).trans hp12)))
    refine hK.out _ _ ?_ ?_
    · ((try dsimp only); go_keep)
    clear hHeld hK K
    intro hHeld
    try simp only [Act.put, List.setIfInBounds_toArray, List.set_cons_zero, List.set_cons_succ]
    refine rg_take 8 (v := ?_) rfl (by kernel_rfl) (by kernel_rfl) (by kernel_rfl) (fun _ _ _ h => h) (by rfl) (by assumption) ?_ ?_
    rotate_left 1
    · (intro w hSw; (try dsimp only at hSw); go_simp; with_reducible rfl)
    try simp only [Act.put, List.setIfInBounds_toArray, List.set_cons_zero, List.set_cons_succ]
    refine rg_take 9 (v := ?_) rfl (by kernel_rfl) (by kernel_rfl) (by kernel_rfl) (fun _ _ _ h => h) (by rfl) (by assumption) ?_ ?_
    rotate_left 1
    · (intro w hSw; (try dsimp only at hSw); go_simp; with_reducible rfl)
    try simp only [Act.put, List.setIfInBounds_toArray, List.set_cons_zero, List.set_cons_succ]
    refine wpAnyH_ready (rs := [10]) (by kernel_rfl) (by simp) ?_
    refine rg_step 10 rfl (fun K hK => ?_) (AllReadyH.nil)
    go_simp
    refine hK.out _ _ ?_ ?_
    · ((try dsimp only); go_keep)
    clear hHeld hK K
    intro hHeld
    try simp only [Act.put, List.setIfInBounds_toArray, List.set_cons_zero, List.set_cons_succ]
    refine wpAnyH_done (by kernel_rfl) ?_ _
  rotate_left 1
  focus
    go_simp
    refine hK.out _ _ ?_ ?_
    · ((try dsimp only); go_keep)
    clear hHeld hK K
    intro hHeld
    try simp only [Act.put, List.setIfInBounds_toArray, List.set_cons_zero, List.set_cons_succ]
    refine wpAnyH_ready (rs := [4]) (by kernel_rfl) (by simp) ?_
    refine rg_step 4 rfl (fun K hK => ?_) (AllReadyH.nil)
    go_simp
    refine hK.out _ _ ?_ ?_
    · ((try dsimp only); go_keep)
    clear hHeld hK K
    intro hHeld
    try simp only [Act.put, List.setIfInBounds_toArray, List.set_cons_zero, List.set_cons_succ]
    refine wpAnyH_ready (rs := [7]) (by kernel_rfl) (by simp) ?_
    refine rg_step 7 rfl (fun K hK => ?_) (AllReadyH.nil)
    (refine step_append_grows (by rfl) _ _ _ (by rfl) 42 i0 _ 11 120 Tryz.underlying25 hi hz0 hz1 hz2 rfl (by decide) none 0 0 [] (by rfl) (by simp) rfl (fun b' hb' => by cases hb') ⟨W2.heap.size, 0, none⟩ 1 1 [.int .i64 kind, .int .i64 me, .int .i64 dst, .int .i64 term, .int .i64 a1, .int .i64 a2, .int .i64 a3, .int .i64 a4, .bool ye, .slice lA ln lc, .slice dA dn dc] (by rfl) rfl (World.news_of_block (cs := #[.int .i64 kind, .int .i64 me, .int .i64 dst, .int .i64 term, .int .i64 a1, .int .i64 a2, .int .i64 a3, .int .i64 a4, .bool ye, .slice lA ln lc, .slice dA dn dc]) (t := 42) (fr := (0, 0)) (blk_new W2 _)) (by simp [Value.oneCell']) (by omega) (by simp [maxLen]) (by omega) ?_; intro v6 w6 hown6 hg6; obtain ⟨g6, cap6, rfl, hgb6, hgl6⟩ := hown6.form (by omega); have hb6 := below_of_grown hg6; have tc12 := cell_keep hb6 (cell_keep (box_below W2 _) c12); have tm0 := cell_keep hb6 (cell_keep (box_below W2 _) m0); have tm1 := cell_keep hb6 (cell_keep (box_below W2 _) m1); have tm2 := cell_keep hb6 (cell_keep (box_below W2 _) m2); have tm3 := cell_keep hb6 (cell_keep (box_below W2 _) m3); have tm4 := cell_keep hb6 (cell_keep (box_below W2 _) m4); have tm5 := cell_keep hb6 (cell_keep (box_below W2 _) m5); have tm6 := cell_keep hb6 (cell_keep (box_below W2 _) m6); have tm7 := cell_keep hb6 (cell_keep (box_below W2 _) m7); have tm8 := cell_keep hb6 (cell_keep (box_below W2 _) m8); have tm9 := cell_keep hb6 (cell_keep (box_below W2 _) m9); have tm10 := cell_keep hb6 (cell_keep (box_below W2 _) m10); have tf := ((hb6.frozen (p := ⟨p, 12, none⟩) (block_lt (cell_keep (box_below W2 _) c12))).trans (((box_below W2 _).frozen (p := ⟨p, 12, none⟩) (block_lt c12)).trans hp12)))
    refine hK.out _ _ ?_ ?_
    · ((try dsimp only); go_keep)
    clear hHeld hK K
    intro hHeld
    try simp only [Act.put, List.setIfInBounds_toArray, List.set_cons_zero, List.set_cons_succ]
    refine rg_take 8 (v := ?_) rfl (by kernel_rfl) (by kernel_rfl) (by kernel_rfl) (fun _ _ _ h => h) (by rfl) (by assumption) ?_ ?_
    rotate_left 1
    · (intro w hSw; (try dsimp only at hSw); go_simp; with_reducible rfl)
    try simp only [Act.put, List.setIfInBounds_toArray, List.set_cons_zero, List.set_cons_succ]
    refine rg_take 9 (v := ?_) rfl (by kernel_rfl) (by kernel_rfl) (by kernel_rfl) (fun _ _ _ h => h) (by rfl) (by assumption) ?_ ?_
    rotate_left 1
    · (intro w hSw; (try dsimp only at hSw); go_simp; with_reducible rfl)
    try simp only [Act.put, List.setIfInBounds_toArray, List.set_cons_zero, List.set_cons_succ]
    refine wpAnyH_ready (rs := [10]) (by kernel_rfl) (by simp) ?_
    refine rg_step 10 rfl (fun K hK => ?_) (AllReadyH.nil)
    go_simp
    refine hK.out _ _ ?_ ?_
    · ((try dsimp only); go_keep)
    clear hHeld hK K
    intro hHeld
    try simp only [Act.put, List.setIfInBounds_toArray, List.set_cons_zero, List.set_cons_succ]
    refine wpAnyH_done (by kernel_rfl) ?_ _
  rotate_left 1
  all_goals
    go_end0
    exact ⟨rfl, _, blk_set (blk_keep hb6 (blk_alloc Hp2.out _)) _, ((Sm.of_below' (below_then (below_alloc hb2 _).drew hb6) _).setCell (fun h => h rfl) _)⟩
end Go.Proofs.YtahagecdebadfaaGreat

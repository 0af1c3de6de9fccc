/- Texts that belong together, in one file: RgS, RfE, RgP, RfF. No statement is proved here. -/
import Derived.Test.YtahagecdebadfaaGreatQRfD
import Derived.Test.YtahagecdebadfaaGreatQEntAA
namespace Go.Proofs.YtahagecdebadfaaGreat
open Go.RowKit

structure Sm (S : Nat → Prop) (w w' : World) : Prop where
  os : w'.os = w.os
  tape : w'.tape = w.tape
  output : w'.output = w.output
  size : w.heap.size ≤ w'.heap.size
  block : ∀ b, S b → b < w.heap.size → w'.heap[b]? = w.heap[b]?
theorem Sm.same {S : Nat → Prop} {w w' : World} (h : Sm S w w') : Same S w w' := ⟨h.size, h.block⟩
theorem Sm.refl (S : Nat → Prop) (w : World) : Sm S w w := ⟨rfl, rfl, rfl, Nat.le_refl _, fun _ _ _ => rfl⟩
theorem Sm.trans {S : Nat → Prop} {a b c : World} (h : Sm S a b) (k : Sm S b c) : Sm S a c :=
  ⟨k.os.trans h.os, k.tape.trans h.tape, k.output.trans h.output, Nat.le_trans h.size k.size, fun i hs hi => (k.block i hs (Nat.lt_of_lt_of_le hi h.size)).trans (h.block i hs hi)⟩
theorem Sm.mono {S T : Nat → Prop} {a b : World} (h : Sm S a b) (hT : ∀ i, T i → S i) : Sm T a b := ⟨h.os, h.tape, h.output, h.size, fun i hs hi => h.block i (hT i hs) hi⟩
theorem Sm.of_below' {w w' : World} (hb : Below w.heap.size w w') (S : Nat → Prop) : Sm S w w' := ⟨hb.os, hb.tape, hb.output, hb.size, fun b _ hs => hb.block b hs⟩
theorem Sm.setCell {S : Nat → Prop} {a w : World} (h : Sm S a w) {p : Addr} (hp : ¬ S p.block) (u : Value) : Sm S a (w.setCell p u) :=
  ⟨h.os, h.tape, h.output, (h.same.setCell hp u).size, (h.same.setCell hp u).block⟩
theorem Sm.alloc {S : Nat → Prop} {a w : World} (h : Sm S a w) (o : Obj) : Sm S a (w.alloc o) := ⟨h.os, h.tape, h.output, (h.same.alloc o).size, (h.same.alloc o).block⟩
theorem Sm.drewN {S : Nat → Prop} {a w : World} (h : Sm S a w) (n : Nat) : Sm S a (w.drewN n) := ⟨h.os, h.tape, h.output, h.size, h.block⟩
theorem Sm.drew {S : Nat → Prop} {a w : World} (h : Sm S a w) : Sm S a w.drew := ⟨h.os, h.tape, h.output, h.size, h.block⟩
theorem Sm.cell {S : Nat → Prop} {w w' : World} (h : Sm S w w') {p : Addr} {v : Value} (hp : S p.block) (hc : w.cell? p = some v) : w'.cell? p = some v := h.same.cell hp hc
/-- Nothing that was there is changed. -/
theorem Sm.below {w w' : World} (h : Sm (fun _ => True) w w') : Below w.heap.size w w' := ⟨h.os, h.tape, h.output, h.size, fun b hb => h.block b trivial hb⟩
/-- Nothing that stood at the beginning is changed. -/
theorem Sm.below_lt {w w' : World} (h : Sm (fun b => b < w.heap.size) w w') : Below w.heap.size w w' := ⟨h.os, h.tape, h.output, h.size, fun b hb => h.block b hb hb⟩
theorem LogAt.keepM {S : Nat → Prop} {w w' : World} {v : Value} {ps : List Part} (h : LogAt S w v ps) (hs : Sm S w w') : LogAt S w' v ps := h.keepS hs.same
theorem Bytes.keepM {S : Nat → Prop} {w w' : World} {v : Value} {xs : List UInt8} (h : Bytes S w v xs) (hs : Sm S w w') : Bytes S w' v xs := Bytes.keepS h hs.same
theorem Ents.keepM {S : Nat → Prop} {w w' : World} {v : Value} {l : List Ent} (h : Ents S w v l) (hs : Sm S w w') : Ents S w' v l := Ents.keepS h hs.same
end Go.Proofs.YtahagecdebadfaaGreat

namespace Go.Proofs.YtahagecdebadfaaGreat
open Go.RowKit
attribute [local go_sem ↓] Go.wp_at_zero Go.wp_at_succ

/-- But for the blocks T, and but for new ones, nothing is written. -/
def Chg (T : Nat → Prop) (B : Nat) (w w' : World) : Prop := Sm (fun b => ¬ T b) w w' ∧ Below B w w'
theorem cells16 {w : World} {p : Nat} {x0 x1 x2 x3 x4 x5 x6 x7 x8 x9 x10 x11 x12 x13 x14 x15 : Value} {t : TypeId} (h : w.heap[p]? = some (.cells #[x0, x1, x2, x3, x4, x5, x6, x7, x8, x9, x10, x11, x12, x13, x14, x15] t (0, 0))) :
    (w.cell? ⟨p, 0, none⟩ = some x0 ∧ w.cell? ⟨p, 1, none⟩ = some x1 ∧ w.cell? ⟨p, 2, none⟩ = some x2 ∧ w.cell? ⟨p, 3, none⟩ = some x3 ∧ w.cell? ⟨p, 4, none⟩ = some x4 ∧ w.cell? ⟨p, 5, none⟩ = some x5 ∧ w.cell? ⟨p, 6, none⟩ = some x6 ∧ w.cell? ⟨p, 7, none⟩ = some x7 ∧ w.cell? ⟨p, 8, none⟩ = some x8 ∧ w.cell? ⟨p, 9, none⟩ = some x9 ∧ w.cell? ⟨p, 10, none⟩ = some x10 ∧ w.cell? ⟨p, 11, none⟩ = some x11 ∧ w.cell? ⟨p, 12, none⟩ = some x12 ∧ w.cell? ⟨p, 13, none⟩ = some x13 ∧ w.cell? ⟨p, 14, none⟩ = some x14 ∧ w.cell? ⟨p, 15, none⟩ = some x15) ∧
    ∀ k, w.frozen? ⟨p, k, none⟩ = false := by
  refine ⟨?_, fun k => ?_⟩ <;> simp [World.cell?, World.frozen?, h]
def newCommit (g : Lg) (term commit : Int) (me : Nat) (m : List Int) : Int :=
  if commit < bestGo ((m.map (min · g.top)).set me g.top) g.mem 5 ∧ g.termAt (bestGo ((m.map (min · g.top)).set me g.top) g.mem 5) = term then bestGo ((m.map (min · g.top)).set me g.top) g.mem 5 else commit

theorem min_if (a t : Int) : (if t < a then t else a) = min a t := by split <;> omega
theorem lt_no {a b : Int} (h : a ≤ b) : (b < a) = False := eq_false (by omega)
attribute [local go_sem] lt_no
def mins (top : Int) (l : List Int) (k : Nat) : List Int := (l.take k).map (min · top) ++ l.drop k
set_option maxHeartbeats 4000000 in
theorem rcount_stay {S : Nat → Prop} (p q : Nat) (me term commit m0 m1 m2 m3 m4 : Int) (x2 x3 lv x6 x7 x8 x9 x10 x11 x12 y0 y1 y2 y3 y4 y5 z0 z1 z2 z3 z4 : Value) (g : Lg) (w : World)
    (h : w.heap[p]? = some (.cells #[.int .i64 me, .int .i64 term, x2, x3, lv, .int .i64 commit, x6, x7, x8, x9, x10, x11, x12] 92 (0, 0)))
    (hq : w.heap[q]? = some (.cells #[y0, y1, y2, y3, y4, y5, .int .i64 m0, .int .i64 m1, .int .i64 m2, .int .i64 m3, .int .i64 m4, z0, z1, z2, z3, z4] 99 (0, 0)))
    (hL : LogAt S w lv g.parts) (hg : g.Good) (hS : ¬ S p) (hm : 0 ≤ me) (hm' : me < 5) (hhas : hasB g.mem me.toNat = true) :
    Calls Tryz.prog 45 #[.pointer (some ⟨p, 0, none⟩), .pointer (some ⟨q, 0, none⟩)] w fun e w' => e = .returned (.bool true) ∧
      w'.heap[p]? = some (.cells #[.int .i64 me, .int .i64 term, x2, x3, lv, .int .i64 (newCommit g term commit me.toNat [m0, m1, m2, m3, m4]), x6, x7, x8, x9, x10, x11, x12] 92 (0, 0)) ∧ Chg (· = p) p w w' := by
  obtain ⟨⟨c0, c1, c2, c3, c4, c5, c6, c7, c8, c9, c10, c11, c12⟩, hf⟩ := cells13 h
  obtain ⟨⟨-, -, -, -, -, -, d0, d1, d2, d3, d4, -⟩, -⟩ := cells16 hq
  have Ht := Lib.hid (top_run lv g w hL hg)
  have HL := Lib.hid hL
  have Hg := Lib.hid hg
  have Hh := Lib.hid h
  have Hhas := Lib.hid hhas
  have hrange := hg.topR
  clear hL hg h hhas hq
  go_enter Tryz.func45, Tryz.ntmps45
  go_wp2_with fail
  refine Ht.out.mono ?_
  rintro e w1 ⟨rfl, hb1⟩
  have k6 := cell_keep hb1 d0
  have k7 := cell_keep hb1 d1
  have k8 := cell_keep hb1 d2
  have k9 := cell_keep hb1 d3
  have k10 := cell_keep hb1 d4
  go_wp2_with fail
  go_loopw [22] (fun n wr => ∃ (k : Nat) (a0 a1 a2 a3 a4 : Int), n = .int .i64 k ∧ k ≤ 5 ∧ wr.heap[w1.heap.size]? = some (.cells #[.int .i64 a0, .int .i64 a1, .int .i64 a2, .int .i64 a3, .int .i64 a4] 97 (0, 0)) ∧ [a0, a1, a2, a3, a4] = mins g.top [m0, m1, m2, m3, m4] k ∧ Below w1.heap.size w1 wr) (fun n _ => (5 - intOf n).toNat)
  case atStart => exact ⟨0, _, _, _, _, _, rfl, by omega, blk_new _ _, rfl, box_below _ _⟩
  case round =>
    obtain ⟨k, a0, a1, a2, a3, a4, rfl, hk, hbx, hmin, hbr⟩ := hrel
    obtain ⟨e0, e1, e2, e3, e4, g0, g1, g2, g3, g4⟩ := cells5 hbx
    by_cases h5 : k = 5
    · subst h5
      have hpr := blk_keep (below_then hb1 hbr) Hh.out
      have Hpr := Lib.hid hpr
      have hbw := below_then hb1 hbr
      obtain ⟨⟨p0, p1, p2, p3, p4, p5, p6, p7, p8, p9, p10, p11, p12⟩, pf⟩ := cells13 hpr
      have pf5 := pf 5
      have hmem := Hg.out.mem
      have HR := Lib.hid (rbest_any p me g.top a0 a1 a2 a3 a4 g.mem (by omega) _ _ _ _ _ _ _ _ _ _ _ _ wr hpr hm hm' (fun W hW => rmembers_any p _ _ _ _ _ _ _ _ _ _ _ _ _ g W (blk_keep hW hpr) ((HL.out.keep hbw).keep hW) Hg.out))
      clear hmem hbx hpr g0 g1 g2 g3 g4 hf c0 c1 c2 c3 c4 c5 c6 c7 c8 c9 c10 c11 c12
      have hLw := HL.out.keep hbw
      have HLw := Lib.hid hLw
      clear hLw
      have hat : bestGo ([a0, a1, a2, a3, a4].set me.toNat g.top) g.mem 5 = bestGo (([m0, m1, m2, m3, m4].map (min · g.top)).set me.toNat g.top) g.mem 5 := by rw [hmin]; rfl
      obtain ⟨at_, hat_⟩ : ∃ a, bestGo (([m0, m1, m2, m3, m4].map (min · g.top)).set me.toNat g.top) g.mem 5 = a := ⟨_, rfl⟩
      have hnc : newCommit g term commit me.toNat [m0, m1, m2, m3, m4] = if commit < at_ ∧ g.termAt at_ = term then at_ else commit := by unfold newCommit; rw [hat_]
      rw [hat, hat_] at HR
      have Hnc := Lib.hid hnc
      clear hnc hat hat_ hmin
      go_wp2_with fail
      refine HR.out.mono ?_
      rintro e w3 ⟨rfl, hb3⟩
      have r1 := cell_keep hb3 p1
      have r4 := cell_keep hb3 p4
      have r5 := cell_keep hb3 p5
      have rf5 := (hb3.frozen (p := ⟨p, 5, none⟩) (block_lt p5)).trans pf5
      have Hp3 := Lib.hid (blk_keep hb3 Hpr.out)
      have HL3 := Lib.hid (HLw.out.keep hb3)
      have hb13 := below_then hbw hb3
      have HT := Lib.hid fun W (hW : Below w3.heap.size w3 W) => term_any lv g at_ W (HL3.out.keep hW) Hg.out
      clear p0 p1 p2 p3 p4 p5 p6 p7 p8 p9 p10 p11 p12 pf pf5 e0 e1 e2 e3 e4
      by_cases hgt : commit < at_
      · go_wp2_with fail
        go_region_held3 (fun w' => w'.cell? ⟨p, 1, none⟩ = some (.int .i64 term) ∧ w'.cell? ⟨p, 4, none⟩ = some lv ∧ w'.cell? ⟨p, 5, none⟩ = some (.int .i64 commit)) (go_keep) ((go_at_call 77; refine (HT.out _ (by exact (by repeat (first | exact Below.refl _ _ | assumption | refine below_drewN ?_ _ | refine Below.drew ?_ | refine below_then ?_ (by assumption) | refine below_alloc ?_ _)))).mono ?_; rintro _ w4 ⟨rfl, hb4⟩; have s1 : w4.cell? ⟨p, 1, none⟩ = some (.int .i64 term) := cell_keep hb4 r1; have s4 : w4.cell? ⟨p, 4, none⟩ = some lv := cell_keep hb4 r4; have s5 : w4.cell? ⟨p, 5, none⟩ = some (.int .i64 commit) := cell_keep hb4 r5))
        all_goals
          have Hp4 := Lib.hid (blk_keep (below_of_drew hb4) Hp3.out)
          have HL4 := Lib.hid (HL3.out.keep (below_of_drew hb4))
          have hb14 := below_then hb13 (below_of_drew hb4)
          have sf5 := ((below_of_drew hb4).frozen (p := ⟨p, 5, none⟩) (block_lt r5)).trans rf5
          clear r1 r4 r5 rf5
          by_cases hte : g.termAt at_ = term
          · have hte2 : (g.termAt at_ == term) = true := by simpa using hte
            rw [if_pos ⟨hgt, hte⟩] at Hnc
            go_wp2_with fail
            obtain ⟨W, hW⟩ : ∃ W, (w4.setCell ⟨p, 5, none⟩ (.int .i64 at_)) = W := ⟨_, rfl⟩
            have hpW : W.heap[p]? = some (.cells #[.int .i64 me, .int .i64 term, x2, x3, lv, .int .i64 at_, x6, x7, x8, x9, x10, x11, x12] 92 (0, 0)) := by rw [← hW]; exact blk_set Hp4.out _
            have hlt := (Array.getElem?_eq_some_iff.1 Hh.out).1
            have hLW : LogAt S W lv g.parts := by rw [← hW]; exact HL4.out.keepM ((Sm.refl S w4).setCell hS _)
            have hcW : Sm (fun b => ¬ b = p) w W ∧ Below p w W := by
              rw [← hW]
              exact ⟨(Sm.of_below' hb14 _).setCell (fun h => h rfl) _, (hb14.mono (Nat.le_of_lt hlt)).setCell (Nat.le_refl _) _⟩
            rw [hW]
            clear hW s1 s4 s5 sf5
            have HcW := Lib.hid hcW
            have HLW := Lib.hid hLW
            have HpW := Lib.hid hpW
            obtain ⟨⟨u0, -, -, -, u4, u5, -⟩, -⟩ := cells13 hpW
            clear hcW hLW hpW
            have HC := Lib.hid fun V (hV : Below W.heap.size W V) => change_any lv g V (HLW.out.keep hV) Hg.out
            have HM := Lib.hid fun V (hV : Below W.heap.size W V) => rmembers_any p _ _ _ _ _ _ _ _ _ _ _ _ _ g V (blk_keep hV HpW.out) (HLW.out.keep hV) Hg.out
            have hmem2 := Hg.out.mem
            have hH := fun V => shas_any g.mem me.toNat V (by omega) (by omega)
            rw [Hhas.out, show ((me.toNat : Nat) : Int) = me by omega] at hH
            have HH := Lib.hid hH
            clear hH hmem2
            by_cases hch : at_ < changeAt g
            · refine wp_region_held_drew (S := (fun w' => w'.cell? ⟨p, 4, none⟩ = some lv ∧ w'.cell? ⟨p, 5, none⟩ = some (.int .i64 at_))) (by kernel_rfl) ?_ ?_
              · ((try dsimp only); go_keep)
              intro hHeld
              refine rg_take 0 (v := ?_) rfl (by kernel_rfl) (by kernel_rfl) (by kernel_rfl) (fun _ _ _ h => h) (by rfl) (by assumption) ?_ ?_
              rotate_left 1
              · (intro w hSw; (try dsimp only at hSw); go_simp; with_reducible rfl)
              try simp only [Act.put, List.setIfInBounds_toArray, List.set_cons_zero, List.set_cons_succ]
              refine rg_take 1 (v := ?_) rfl (by kernel_rfl) (by kernel_rfl) (by kernel_rfl) (fun _ _ _ h => h) (by rfl) (by assumption) ?_ ?_
              rotate_left 1
              · (intro w hSw; (try dsimp only at hSw); go_simp; with_reducible rfl)
              try simp only [Act.put, List.setIfInBounds_toArray, List.set_cons_zero, List.set_cons_succ]
              refine rg_take 2 (v := ?_) rfl (by kernel_rfl) (by kernel_rfl) (by kernel_rfl) (fun _ _ _ h => h) (by rfl) (by assumption) ?_ ?_
              rotate_left 1
              · (intro w hSw; (try dsimp only at hSw); go_simp; with_reducible rfl)
              try simp only [Act.put, List.setIfInBounds_toArray, List.set_cons_zero, List.set_cons_succ]
              refine rg_take 3 (v := ?_) rfl (by kernel_rfl) (by kernel_rfl) (by kernel_rfl) (fun _ _ _ h => h) (by rfl) (by assumption) ?_ ?_
              rotate_left 1
              · (intro w hSw; (try dsimp only at hSw); go_simp; with_reducible rfl)
              try simp only [Act.put, List.setIfInBounds_toArray, List.set_cons_zero, List.set_cons_succ]
              refine rg_take 4 (v := ?_) rfl (by kernel_rfl) (by kernel_rfl) (by kernel_rfl) (fun _ _ _ h => h) (by rfl) (by assumption) ?_ ?_
              rotate_left 1
              · (intro w hSw; (try dsimp only at hSw); go_simp; with_reducible rfl)
              try simp only [Act.put, List.setIfInBounds_toArray, List.set_cons_zero, List.set_cons_succ]
              refine rg_take 5 (v := ?_) rfl (by kernel_rfl) (by kernel_rfl) (by kernel_rfl) (fun _ _ _ h => h) (by rfl) (by assumption) ?_ ?_
              rotate_left 1
              · (intro w hSw; (try dsimp only at hSw); go_simp; with_reducible rfl)
              try simp only [Act.put, List.setIfInBounds_toArray, List.set_cons_zero, List.set_cons_succ]
              refine rg_take 6 (v := ?_) rfl (by kernel_rfl) (by kernel_rfl) (by kernel_rfl) (fun _ _ _ h => h) (by rfl) (by assumption) ?_ ?_
              rotate_left 1
              · (intro w hSw; (try dsimp only at hSw); go_simp; with_reducible rfl)
              try simp only [Act.put, List.setIfInBounds_toArray, List.set_cons_zero, List.set_cons_succ]
              refine rg_take 7 (v := ?_) rfl (by kernel_rfl) (by kernel_rfl) (by kernel_rfl) (fun _ _ _ h => h) (by rfl) (by assumption) ?_ ?_
              rotate_left 1
              · (intro w hSw; (try dsimp only at hSw); go_simp; with_reducible rfl)
              try simp only [Act.put, List.setIfInBounds_toArray, List.set_cons_zero, List.set_cons_succ]
              refine wpAnyH_ready (rs := [8]) (by kernel_rfl) (by simp) ?_
              refine rg_step 8 rfl (fun K hK => ?_) (AllReadyH.nil)
              go_simp
              (go_at_call 94; refine (HC.out _ (by exact (by repeat (first | exact Below.refl _ _ | assumption | refine below_drewN ?_ _ | refine Below.drew ?_ | refine below_then ?_ (by assumption) | refine below_alloc ?_ _)))).mono ?_; rintro _ w4 ⟨rfl, hb4⟩; have s4 : w4.cell? ⟨p, 4, none⟩ = some lv := cell_keep hb4 u4; have s5 : w4.cell? ⟨p, 5, none⟩ = some (.int .i64 at_) := cell_keep hb4 u5)
              go_wp2_with fail
              refine hK.out _ _ ?_ ?_
              · ((try dsimp only); go_keep)
              clear hHeld hK K
              intro hHeld
              try simp only [Act.put, List.setIfInBounds_toArray, List.set_cons_zero, List.set_cons_succ]
              refine rg_take 9 (v := ?_) rfl (by kernel_rfl) (by kernel_rfl) (by kernel_rfl) (fun _ _ _ h => h) (by rfl) (by assumption) ?_ ?_
              rotate_left 1
              · (intro w hSw; (try dsimp only at hSw); go_simp; with_reducible rfl)
              try simp only [Act.put, List.setIfInBounds_toArray, List.set_cons_zero, List.set_cons_succ]
              refine rg_take 10 (v := ?_) rfl (by kernel_rfl) (by kernel_rfl) (by kernel_rfl) (fun _ _ _ h => h) (by rfl) (by assumption) ?_ ?_
              rotate_left 1
              · (intro w hSw; (try dsimp only at hSw); go_simp; with_reducible rfl)
              try simp only [Act.put, List.setIfInBounds_toArray, List.set_cons_zero, List.set_cons_succ]
              refine rg_skip 11 rfl (by kernel_rfl) (by kernel_rfl) (by kernel_rfl) (fun _ _ _ h => h) (by rfl) (by assumption) ?_
              try simp only [Act.put, List.setIfInBounds_toArray, List.set_cons_zero, List.set_cons_succ]
              refine rg_skip 12 rfl (by kernel_rfl) (by kernel_rfl) (by kernel_rfl) (fun _ _ _ h => h) (by rfl) (by assumption) ?_
              try simp only [Act.put, List.setIfInBounds_toArray, List.set_cons_zero, List.set_cons_succ]
              refine rg_skip 13 rfl (by kernel_rfl) (by kernel_rfl) (by kernel_rfl) (fun _ _ _ h => h) (by rfl) (by assumption) ?_
              try simp only [Act.put, List.setIfInBounds_toArray, List.set_cons_zero, List.set_cons_succ]
              refine rg_skip 14 rfl (by kernel_rfl) (by kernel_rfl) (by kernel_rfl) (fun _ _ _ h => h) (by rfl) (by assumption) ?_
              try simp only [Act.put, List.setIfInBounds_toArray, List.set_cons_zero, List.set_cons_succ]
              refine rg_skip 15 rfl (by kernel_rfl) (by kernel_rfl) (by kernel_rfl) (fun _ _ _ h => h) (by rfl) (by assumption) ?_
              try simp only [Act.put, List.setIfInBounds_toArray, List.set_cons_zero, List.set_cons_succ]
              refine rg_skip 16 rfl (by kernel_rfl) (by kernel_rfl) (by kernel_rfl) (fun _ _ _ h => h) (by rfl) (by assumption) ?_
              try simp only [Act.put, List.setIfInBounds_toArray, List.set_cons_zero, List.set_cons_succ]
              refine rg_skip 17 rfl (by kernel_rfl) (by kernel_rfl) (by kernel_rfl) (fun _ _ _ h => h) (by rfl) (by assumption) ?_
              try simp only [Act.put, List.setIfInBounds_toArray, List.set_cons_zero, List.set_cons_succ]
              refine rg_take 18 (v := ?_) rfl (by kernel_rfl) (by kernel_rfl) (by kernel_rfl) (fun _ _ _ h => h) (by rfl) (by assumption) ?_ ?_
              rotate_left 1
              · (intro w hSw; (try dsimp only at hSw); go_simp; with_reducible rfl)
              try simp only [Act.put, List.setIfInBounds_toArray, List.set_cons_zero, List.set_cons_succ]
              refine wpAnyH_done (by kernel_rfl) ?_ _
              all_goals
                go_wp2_with fail
                go_ret
                have hbe := below_of_drew hb4
                exact ⟨rfl, by rw [Hnc.out]; exact blk_keep hbe HpW.out, HcW.out.1.trans (Sm.of_below' hbe _), below_next HcW.out.2 hbe (Nat.le_of_lt (Array.getElem?_eq_some_iff.1 HpW.out).1)⟩
            · refine wp_region_held_drew (S := (fun w' => w'.cell? ⟨p, 0, none⟩ = some (.int .i64 me) ∧ w'.cell? ⟨p, 4, none⟩ = some lv ∧ w'.cell? ⟨p, 5, none⟩ = some (.int .i64 at_))) (by kernel_rfl) ?_ ?_
              · ((try dsimp only); go_keep)
              intro hHeld
              refine rg_take 0 (v := ?_) rfl (by kernel_rfl) (by kernel_rfl) (by kernel_rfl) (fun _ _ _ h => h) (by rfl) (by assumption) ?_ ?_
              rotate_left 1
              · (intro w hSw; (try dsimp only at hSw); go_simp; with_reducible rfl)
              try simp only [Act.put, List.setIfInBounds_toArray, List.set_cons_zero, List.set_cons_succ]
              refine rg_take 1 (v := ?_) rfl (by kernel_rfl) (by kernel_rfl) (by kernel_rfl) (fun _ _ _ h => h) (by rfl) (by assumption) ?_ ?_
              rotate_left 1
              · (intro w hSw; (try dsimp only at hSw); go_simp; with_reducible rfl)
              try simp only [Act.put, List.setIfInBounds_toArray, List.set_cons_zero, List.set_cons_succ]
              refine rg_take 2 (v := ?_) rfl (by kernel_rfl) (by kernel_rfl) (by kernel_rfl) (fun _ _ _ h => h) (by rfl) (by assumption) ?_ ?_
              rotate_left 1
              · (intro w hSw; (try dsimp only at hSw); go_simp; with_reducible rfl)
              try simp only [Act.put, List.setIfInBounds_toArray, List.set_cons_zero, List.set_cons_succ]
              refine rg_take 3 (v := ?_) rfl (by kernel_rfl) (by kernel_rfl) (by kernel_rfl) (fun _ _ _ h => h) (by rfl) (by assumption) ?_ ?_
              rotate_left 1
              · (intro w hSw; (try dsimp only at hSw); go_simp; with_reducible rfl)
              try simp only [Act.put, List.setIfInBounds_toArray, List.set_cons_zero, List.set_cons_succ]
              refine rg_take 4 (v := ?_) rfl (by kernel_rfl) (by kernel_rfl) (by kernel_rfl) (fun _ _ _ h => h) (by rfl) (by assumption) ?_ ?_
              rotate_left 1
              · (intro w hSw; (try dsimp only at hSw); go_simp; with_reducible rfl)
              try simp only [Act.put, List.setIfInBounds_toArray, List.set_cons_zero, List.set_cons_succ]
              refine rg_take 5 (v := ?_) rfl (by kernel_rfl) (by kernel_rfl) (by kernel_rfl) (fun _ _ _ h => h) (by rfl) (by assumption) ?_ ?_
              rotate_left 1
              · (intro w hSw; (try dsimp only at hSw); go_simp; with_reducible rfl)
              try simp only [Act.put, List.setIfInBounds_toArray, List.set_cons_zero, List.set_cons_succ]
              refine rg_take 6 (v := ?_) rfl (by kernel_rfl) (by kernel_rfl) (by kernel_rfl) (fun _ _ _ h => h) (by rfl) (by assumption) ?_ ?_
              rotate_left 1
              · (intro w hSw; (try dsimp only at hSw); go_simp; with_reducible rfl)
              try simp only [Act.put, List.setIfInBounds_toArray, List.set_cons_zero, List.set_cons_succ]
              refine rg_take 7 (v := ?_) rfl (by kernel_rfl) (by kernel_rfl) (by kernel_rfl) (fun _ _ _ h => h) (by rfl) (by assumption) ?_ ?_
              rotate_left 1
              · (intro w hSw; (try dsimp only at hSw); go_simp; with_reducible rfl)
              try simp only [Act.put, List.setIfInBounds_toArray, List.set_cons_zero, List.set_cons_succ]
              refine wpAnyH_ready (rs := [8]) (by kernel_rfl) (by simp) ?_
              refine rg_step 8 rfl (fun K hK => ?_) (AllReadyH.nil)
              go_simp
              first | (go_at_call 94; refine (HC.out _ (by exact (by repeat (first | exact Below.refl _ _ | assumption | refine below_drewN ?_ _ | refine Below.drew ?_ | refine below_then ?_ (by assumption) | refine below_alloc ?_ _)))).mono ?_; rintro _ w4 ⟨rfl, hb4⟩; have s0 : w4.cell? ⟨p, 0, none⟩ = some (.int .i64 me) := cell_keep hb4 u0; have s4 : w4.cell? ⟨p, 4, none⟩ = some lv := cell_keep hb4 u4; have s5 : w4.cell? ⟨p, 5, none⟩ = some (.int .i64 at_) := cell_keep hb4 u5) | (go_at_call 43; refine (HM.out _ (by first | exact below_of_drew hb4 | exact (below_of_drew hb4).drew | exact below_drewN (below_of_drew hb4) _)).mono ?_; rintro _ w5 ⟨rfl, hb5⟩; have t0 : w5.cell? ⟨p, 0, none⟩ = some (.int .i64 me) := cell_keep hb5 (by assumption); have t4 : w5.cell? ⟨p, 4, none⟩ = some lv := cell_keep hb5 (by assumption); have t5 : w5.cell? ⟨p, 5, none⟩ = some (.int .i64 at_) := cell_keep hb5 (by assumption)) | (go_at_call 44; refine (HH.out _).mono ?_; rintro _ w6 ⟨rfl, rfl⟩)
              go_wp2_with fail
              refine hK.out _ _ ?_ ?_
              · ((try dsimp only); go_keep)
              clear hHeld hK K
              intro hHeld
              try simp only [Act.put, List.setIfInBounds_toArray, List.set_cons_zero, List.set_cons_succ]
              refine rg_take 9 (v := ?_) rfl (by kernel_rfl) (by kernel_rfl) (by kernel_rfl) (fun _ _ _ h => h) (by rfl) (by assumption) ?_ ?_
              rotate_left 1
              · (intro w hSw; (try dsimp only at hSw); go_simp; with_reducible rfl)
              try simp only [Act.put, List.setIfInBounds_toArray, List.set_cons_zero, List.set_cons_succ]
              refine rg_take 10 (v := ?_) rfl (by kernel_rfl) (by kernel_rfl) (by kernel_rfl) (fun _ _ _ h => h) (by rfl) (by assumption) ?_ ?_
              rotate_left 1
              · (intro w hSw; (try dsimp only at hSw); go_simp; with_reducible rfl)
              try simp only [Act.put, List.setIfInBounds_toArray, List.set_cons_zero, List.set_cons_succ]
              refine rg_take 11 (v := ?_) rfl (by kernel_rfl) (by kernel_rfl) (by kernel_rfl) (fun _ _ _ h => h) (by rfl) (by assumption) ?_ ?_
              rotate_left 1
              · (intro w hSw; (try dsimp only at hSw); go_simp; with_reducible rfl)
              try simp only [Act.put, List.setIfInBounds_toArray, List.set_cons_zero, List.set_cons_succ]
              refine rg_take 13 (v := ?_) rfl (by kernel_rfl) (by kernel_rfl) (by kernel_rfl) (fun _ _ _ h => h) (by rfl) (by assumption) ?_ ?_
              rotate_left 1
              · (intro w hSw; (try dsimp only at hSw); go_simp; with_reducible rfl)
              try simp only [Act.put, List.setIfInBounds_toArray, List.set_cons_zero, List.set_cons_succ]
              refine rg_take 14 (v := ?_) rfl (by kernel_rfl) (by kernel_rfl) (by kernel_rfl) (fun _ _ _ h => h) (by rfl) (by assumption) ?_ ?_
              rotate_left 1
              · (intro w hSw; (try dsimp only at hSw); go_simp; with_reducible rfl)
              try simp only [Act.put, List.setIfInBounds_toArray, List.set_cons_zero, List.set_cons_succ]
              refine rg_take 15 (v := ?_) rfl (by kernel_rfl) (by kernel_rfl) (by kernel_rfl) (fun _ _ _ h => h) (by rfl) (by assumption) ?_ ?_
              rotate_left 1
              · (intro w hSw; (try dsimp only at hSw); go_simp; with_reducible rfl)
              try simp only [Act.put, List.setIfInBounds_toArray, List.set_cons_zero, List.set_cons_succ]
              refine rg_take 16 (v := ?_) rfl (by kernel_rfl) (by kernel_rfl) (by kernel_rfl) (fun _ _ _ h => h) (by rfl) (by assumption) ?_ ?_
              rotate_left 1
              · (intro w hSw; (try dsimp only at hSw); go_simp; with_reducible rfl)
              try simp only [Act.put, List.setIfInBounds_toArray, List.set_cons_zero, List.set_cons_succ]
              refine wpAnyH_ready (rs := [12]) (by kernel_rfl) (by simp) ?_
              refine rg_step 12 rfl (fun K hK => ?_) (AllReadyH.nil)
              go_simp
              first | (go_at_call 94; refine (HC.out _ (by exact (by repeat (first | exact Below.refl _ _ | assumption | refine below_drewN ?_ _ | refine Below.drew ?_ | refine below_then ?_ (by assumption) | refine below_alloc ?_ _)))).mono ?_; rintro _ w4 ⟨rfl, hb4⟩; have s0 : w4.cell? ⟨p, 0, none⟩ = some (.int .i64 me) := cell_keep hb4 u0; have s4 : w4.cell? ⟨p, 4, none⟩ = some lv := cell_keep hb4 u4; have s5 : w4.cell? ⟨p, 5, none⟩ = some (.int .i64 at_) := cell_keep hb4 u5) | (go_at_call 43; refine (HM.out _ (by first | exact below_of_drew hb4 | exact (below_of_drew hb4).drew | exact below_drewN (below_of_drew hb4) _)).mono ?_; rintro _ w5 ⟨rfl, hb5⟩; have t0 : w5.cell? ⟨p, 0, none⟩ = some (.int .i64 me) := cell_keep hb5 (by assumption); have t4 : w5.cell? ⟨p, 4, none⟩ = some lv := cell_keep hb5 (by assumption); have t5 : w5.cell? ⟨p, 5, none⟩ = some (.int .i64 at_) := cell_keep hb5 (by assumption)) | (go_at_call 44; refine (HH.out _).mono ?_; rintro _ w6 ⟨rfl, rfl⟩)
              go_wp2_with fail
              refine hK.out _ _ ?_ ?_
              · ((try dsimp only); go_keep)
              clear hHeld hK K
              intro hHeld
              try simp only [Act.put, List.setIfInBounds_toArray, List.set_cons_zero, List.set_cons_succ]
              refine wpAnyH_ready (rs := [17]) (by kernel_rfl) (by simp) ?_
              refine rg_step 17 rfl (fun K hK => ?_) (AllReadyH.nil)
              go_simp
              first | (go_at_call 94; refine (HC.out _ (by exact (by repeat (first | exact Below.refl _ _ | assumption | refine below_drewN ?_ _ | refine Below.drew ?_ | refine below_then ?_ (by assumption) | refine below_alloc ?_ _)))).mono ?_; rintro _ w4 ⟨rfl, hb4⟩; have s0 : w4.cell? ⟨p, 0, none⟩ = some (.int .i64 me) := cell_keep hb4 u0; have s4 : w4.cell? ⟨p, 4, none⟩ = some lv := cell_keep hb4 u4; have s5 : w4.cell? ⟨p, 5, none⟩ = some (.int .i64 at_) := cell_keep hb4 u5) | (go_at_call 43; refine (HM.out _ (by first | exact below_of_drew hb4 | exact (below_of_drew hb4).drew | exact below_drewN (below_of_drew hb4) _)).mono ?_; rintro _ w5 ⟨rfl, hb5⟩; have t0 : w5.cell? ⟨p, 0, none⟩ = some (.int .i64 me) := cell_keep hb5 (by assumption); have t4 : w5.cell? ⟨p, 4, none⟩ = some lv := cell_keep hb5 (by assumption); have t5 : w5.cell? ⟨p, 5, none⟩ = some (.int .i64 at_) := cell_keep hb5 (by assumption)) | (go_at_call 44; refine (HH.out _).mono ?_; rintro _ w6 ⟨rfl, rfl⟩)
              go_wp2_with fail
              refine hK.out _ _ ?_ ?_
              · ((try dsimp only); go_keep)
              clear hHeld hK K
              intro hHeld
              try simp only [Act.put, List.setIfInBounds_toArray, List.set_cons_zero, List.set_cons_succ]
              refine rg_take 18 (v := ?_) rfl (by kernel_rfl) (by kernel_rfl) (by kernel_rfl) (fun _ _ _ h => h) (by rfl) (by assumption) ?_ ?_
              rotate_left 1
              · (intro w hSw; (try dsimp only at hSw); go_simp; with_reducible rfl)
              try simp only [Act.put, List.setIfInBounds_toArray, List.set_cons_zero, List.set_cons_succ]
              refine wpAnyH_done (by kernel_rfl) ?_ _
              all_goals
                go_wp2_with fail
                go_ret
                have hbe0 : Below W.heap.size W w4 := below_of_drew hb4
                have hbe := below_then hbe0 hb5
                exact ⟨rfl, by rw [Hnc.out]; exact blk_keep hbe HpW.out, HcW.out.1.trans (Sm.of_below' hbe _), below_next HcW.out.2 hbe (Nat.le_of_lt (Array.getElem?_eq_some_iff.1 HpW.out).1)⟩
          · have hte2 : (g.termAt at_ == term) = false := by simpa using hte
            rw [if_neg (fun h => hte h.2)] at Hnc
            go_wp2_with fail
            obtain ⟨W, hW⟩ : ∃ W, (w4) = W := ⟨_, rfl⟩
            have hpW : W.heap[p]? = some (.cells #[.int .i64 me, .int .i64 term, x2, x3, lv, .int .i64 commit, x6, x7, x8, x9, x10, x11, x12] 92 (0, 0)) := by rw [← hW]; exact Hp4.out
            have hlt := (Array.getElem?_eq_some_iff.1 Hh.out).1
            have hLW : LogAt S W lv g.parts := by rw [← hW]; exact HL4.out
            have hcW : Sm (fun b => ¬ b = p) w W ∧ Below p w W := by
              rw [← hW]
              exact ⟨Sm.of_below' hb14 _, hb14.mono (Nat.le_of_lt hlt)⟩
            rw [hW]
            clear hW s1 s4 s5 sf5
            have HcW := Lib.hid hcW
            have HLW := Lib.hid hLW
            have HpW := Lib.hid hpW
            obtain ⟨⟨u0, -, -, -, u4, u5, -⟩, -⟩ := cells13 hpW
            clear hcW hLW hpW
            have HC := Lib.hid fun V (hV : Below W.heap.size W V) => change_any lv g V (HLW.out.keep hV) Hg.out
            have HM := Lib.hid fun V (hV : Below W.heap.size W V) => rmembers_any p _ _ _ _ _ _ _ _ _ _ _ _ _ g V (blk_keep hV HpW.out) (HLW.out.keep hV) Hg.out
            have hmem2 := Hg.out.mem
            have hH := fun V => shas_any g.mem me.toNat V (by omega) (by omega)
            rw [Hhas.out, show ((me.toNat : Nat) : Int) = me by omega] at hH
            have HH := Lib.hid hH
            clear hH hmem2
            by_cases hch : commit < changeAt g
            · refine wp_region_held_drew (S := (fun w' => w'.cell? ⟨p, 4, none⟩ = some lv ∧ w'.cell? ⟨p, 5, none⟩ = some (.int .i64 commit))) (by kernel_rfl) ?_ ?_
              · ((try dsimp only); go_keep)
              intro hHeld
              refine rg_take 0 (v := ?_) rfl (by kernel_rfl) (by kernel_rfl) (by kernel_rfl) (fun _ _ _ h => h) (by rfl) (by assumption) ?_ ?_
              rotate_left 1
              · (intro w hSw; (try dsimp only at hSw); go_simp; with_reducible rfl)
              try simp only [Act.put, List.setIfInBounds_toArray, List.set_cons_zero, List.set_cons_succ]
              refine rg_take 1 (v := ?_) rfl (by kernel_rfl) (by kernel_rfl) (by kernel_rfl) (fun _ _ _ h => h) (by rfl) (by assumption) ?_ ?_
              rotate_left 1
              · (intro w hSw; (try dsimp only at hSw); go_simp; with_reducible rfl)
              try simp only [Act.put, List.setIfInBounds_toArray, List.set_cons_zero, List.set_cons_succ]
              refine rg_take 2 (v := ?_) rfl (by kernel_rfl) (by kernel_rfl) (by kernel_rfl) (fun _ _ _ h => h) (by rfl) (by assumption) ?_ ?_
              rotate_left 1
              · (intro w hSw; (try dsimp only at hSw); go_simp; with_reducible rfl)
              try simp only [Act.put, List.setIfInBounds_toArray, List.set_cons_zero, List.set_cons_succ]
              refine rg_take 3 (v := ?_) rfl (by kernel_rfl) (by kernel_rfl) (by kernel_rfl) (fun _ _ _ h => h) (by rfl) (by assumption) ?_ ?_
              rotate_left 1
              · (intro w hSw; (try dsimp only at hSw); go_simp; with_reducible rfl)
              try simp only [Act.put, List.setIfInBounds_toArray, List.set_cons_zero, List.set_cons_succ]
              refine rg_take 4 (v := ?_) rfl (by kernel_rfl) (by kernel_rfl) (by kernel_rfl) (fun _ _ _ h => h) (by rfl) (by assumption) ?_ ?_
              rotate_left 1
              · (intro w hSw; (try dsimp only at hSw); go_simp; with_reducible rfl)
              try simp only [Act.put, List.setIfInBounds_toArray, List.set_cons_zero, List.set_cons_succ]
              refine rg_take 5 (v := ?_) rfl (by kernel_rfl) (by kernel_rfl) (by kernel_rfl) (fun _ _ _ h => h) (by rfl) (by assumption) ?_ ?_
              rotate_left 1
              · (intro w hSw; (try dsimp only at hSw); go_simp; with_reducible rfl)
              try simp only [Act.put, List.setIfInBounds_toArray, List.set_cons_zero, List.set_cons_succ]
              refine rg_take 6 (v := ?_) rfl (by kernel_rfl) (by kernel_rfl) (by kernel_rfl) (fun _ _ _ h => h) (by rfl) (by assumption) ?_ ?_
              rotate_left 1
              · (intro w hSw; (try dsimp only at hSw); go_simp; with_reducible rfl)
              try simp only [Act.put, List.setIfInBounds_toArray, List.set_cons_zero, List.set_cons_succ]
              refine rg_take 7 (v := ?_) rfl (by kernel_rfl) (by kernel_rfl) (by kernel_rfl) (fun _ _ _ h => h) (by rfl) (by assumption) ?_ ?_
              rotate_left 1
              · (intro w hSw; (try dsimp only at hSw); go_simp; with_reducible rfl)
              try simp only [Act.put, List.setIfInBounds_toArray, List.set_cons_zero, List.set_cons_succ]
              refine wpAnyH_ready (rs := [8]) (by kernel_rfl) (by simp) ?_
              refine rg_step 8 rfl (fun K hK => ?_) (AllReadyH.nil)
              go_simp
              (go_at_call 94; refine (HC.out _ (by exact (by repeat (first | exact Below.refl _ _ | assumption | refine below_drewN ?_ _ | refine Below.drew ?_ | refine below_then ?_ (by assumption) | refine below_alloc ?_ _)))).mono ?_; rintro _ w4 ⟨rfl, hb4⟩; have s4 : w4.cell? ⟨p, 4, none⟩ = some lv := cell_keep hb4 u4; have s5 : w4.cell? ⟨p, 5, none⟩ = some (.int .i64 commit) := cell_keep hb4 u5)
              go_wp2_with fail
              refine hK.out _ _ ?_ ?_
              · ((try dsimp only); go_keep)
              clear hHeld hK K
              intro hHeld
              try simp only [Act.put, List.setIfInBounds_toArray, List.set_cons_zero, List.set_cons_succ]
              refine rg_take 9 (v := ?_) rfl (by kernel_rfl) (by kernel_rfl) (by kernel_rfl) (fun _ _ _ h => h) (by rfl) (by assumption) ?_ ?_
              rotate_left 1
              · (intro w hSw; (try dsimp only at hSw); go_simp; with_reducible rfl)
              try simp only [Act.put, List.setIfInBounds_toArray, List.set_cons_zero, List.set_cons_succ]
              refine rg_take 10 (v := ?_) rfl (by kernel_rfl) (by kernel_rfl) (by kernel_rfl) (fun _ _ _ h => h) (by rfl) (by assumption) ?_ ?_
              rotate_left 1
              · (intro w hSw; (try dsimp only at hSw); go_simp; with_reducible rfl)
              try simp only [Act.put, List.setIfInBounds_toArray, List.set_cons_zero, List.set_cons_succ]
              refine rg_skip 11 rfl (by kernel_rfl) (by kernel_rfl) (by kernel_rfl) (fun _ _ _ h => h) (by rfl) (by assumption) ?_
              try simp only [Act.put, List.setIfInBounds_toArray, List.set_cons_zero, List.set_cons_succ]
              refine rg_skip 12 rfl (by kernel_rfl) (by kernel_rfl) (by kernel_rfl) (fun _ _ _ h => h) (by rfl) (by assumption) ?_
              try simp only [Act.put, List.setIfInBounds_toArray, List.set_cons_zero, List.set_cons_succ]
              refine rg_skip 13 rfl (by kernel_rfl) (by kernel_rfl) (by kernel_rfl) (fun _ _ _ h => h) (by rfl) (by assumption) ?_
              try simp only [Act.put, List.setIfInBounds_toArray, List.set_cons_zero, List.set_cons_succ]
              refine rg_skip 14 rfl (by kernel_rfl) (by kernel_rfl) (by kernel_rfl) (fun _ _ _ h => h) (by rfl) (by assumption) ?_
              try simp only [Act.put, List.setIfInBounds_toArray, List.set_cons_zero, List.set_cons_succ]
              refine rg_skip 15 rfl (by kernel_rfl) (by kernel_rfl) (by kernel_rfl) (fun _ _ _ h => h) (by rfl) (by assumption) ?_
              try simp only [Act.put, List.setIfInBounds_toArray, List.set_cons_zero, List.set_cons_succ]
              refine rg_skip 16 rfl (by kernel_rfl) (by kernel_rfl) (by kernel_rfl) (fun _ _ _ h => h) (by rfl) (by assumption) ?_
              try simp only [Act.put, List.setIfInBounds_toArray, List.set_cons_zero, List.set_cons_succ]
              refine rg_skip 17 rfl (by kernel_rfl) (by kernel_rfl) (by kernel_rfl) (fun _ _ _ h => h) (by rfl) (by assumption) ?_
              try simp only [Act.put, List.setIfInBounds_toArray, List.set_cons_zero, List.set_cons_succ]
              refine rg_take 18 (v := ?_) rfl (by kernel_rfl) (by kernel_rfl) (by kernel_rfl) (fun _ _ _ h => h) (by rfl) (by assumption) ?_ ?_
              rotate_left 1
              · (intro w hSw; (try dsimp only at hSw); go_simp; with_reducible rfl)
              try simp only [Act.put, List.setIfInBounds_toArray, List.set_cons_zero, List.set_cons_succ]
              refine wpAnyH_done (by kernel_rfl) ?_ _
              all_goals
                go_wp2_with fail
                go_ret
                have hbe := below_of_drew hb4
                exact ⟨rfl, by rw [Hnc.out]; exact blk_keep hbe HpW.out, HcW.out.1.trans (Sm.of_below' hbe _), below_next HcW.out.2 hbe (Nat.le_of_lt (Array.getElem?_eq_some_iff.1 HpW.out).1)⟩
            · refine wp_region_held_drew (S := (fun w' => w'.cell? ⟨p, 0, none⟩ = some (.int .i64 me) ∧ w'.cell? ⟨p, 4, none⟩ = some lv ∧ w'.cell? ⟨p, 5, none⟩ = some (.int .i64 commit))) (by kernel_rfl) ?_ ?_
              · ((try dsimp only); go_keep)
              intro hHeld
              refine rg_take 0 (v := ?_) rfl (by kernel_rfl) (by kernel_rfl) (by kernel_rfl) (fun _ _ _ h => h) (by rfl) (by assumption) ?_ ?_
              rotate_left 1
              · (intro w hSw; (try dsimp only at hSw); go_simp; with_reducible rfl)
              try simp only [Act.put, List.setIfInBounds_toArray, List.set_cons_zero, List.set_cons_succ]
              refine rg_take 1 (v := ?_) rfl (by kernel_rfl) (by kernel_rfl) (by kernel_rfl) (fun _ _ _ h => h) (by rfl) (by assumption) ?_ ?_
              rotate_left 1
              · (intro w hSw; (try dsimp only at hSw); go_simp; with_reducible rfl)
              try simp only [Act.put, List.setIfInBounds_toArray, List.set_cons_zero, List.set_cons_succ]
              refine rg_take 2 (v := ?_) rfl (by kernel_rfl) (by kernel_rfl) (by kernel_rfl) (fun _ _ _ h => h) (by rfl) (by assumption) ?_ ?_
              rotate_left 1
              · (intro w hSw; (try dsimp only at hSw); go_simp; with_reducible rfl)
              try simp only [Act.put, List.setIfInBounds_toArray, List.set_cons_zero, List.set_cons_succ]
              refine rg_take 3 (v := ?_) rfl (by kernel_rfl) (by kernel_rfl) (by kernel_rfl) (fun _ _ _ h => h) (by rfl) (by assumption) ?_ ?_
              rotate_left 1
              · (intro w hSw; (try dsimp only at hSw); go_simp; with_reducible rfl)
              try simp only [Act.put, List.setIfInBounds_toArray, List.set_cons_zero, List.set_cons_succ]
              refine rg_take 4 (v := ?_) rfl (by kernel_rfl) (by kernel_rfl) (by kernel_rfl) (fun _ _ _ h => h) (by rfl) (by assumption) ?_ ?_
              rotate_left 1
              · (intro w hSw; (try dsimp only at hSw); go_simp; with_reducible rfl)
              try simp only [Act.put, List.setIfInBounds_toArray, List.set_cons_zero, List.set_cons_succ]
              refine rg_take 5 (v := ?_) rfl (by kernel_rfl) (by kernel_rfl) (by kernel_rfl) (fun _ _ _ h => h) (by rfl) (by assumption) ?_ ?_
              rotate_left 1
              · (intro w hSw; (try dsimp only at hSw); go_simp; with_reducible rfl)
              try simp only [Act.put, List.setIfInBounds_toArray, List.set_cons_zero, List.set_cons_succ]
              refine rg_take 6 (v := ?_) rfl (by kernel_rfl) (by kernel_rfl) (by kernel_rfl) (fun _ _ _ h => h) (by rfl) (by assumption) ?_ ?_
              rotate_left 1
              · (intro w hSw; (try dsimp only at hSw); go_simp; with_reducible rfl)
              try simp only [Act.put, List.setIfInBounds_toArray, List.set_cons_zero, List.set_cons_succ]
              refine rg_take 7 (v := ?_) rfl (by kernel_rfl) (by kernel_rfl) (by kernel_rfl) (fun _ _ _ h => h) (by rfl) (by assumption) ?_ ?_
              rotate_left 1
              · (intro w hSw; (try dsimp only at hSw); go_simp; with_reducible rfl)
              try simp only [Act.put, List.setIfInBounds_toArray, List.set_cons_zero, List.set_cons_succ]
              refine wpAnyH_ready (rs := [8]) (by kernel_rfl) (by simp) ?_
              refine rg_step 8 rfl (fun K hK => ?_) (AllReadyH.nil)
              go_simp
              first | (go_at_call 94; refine (HC.out _ (by exact (by repeat (first | exact Below.refl _ _ | assumption | refine below_drewN ?_ _ | refine Below.drew ?_ | refine below_then ?_ (by assumption) | refine below_alloc ?_ _)))).mono ?_; rintro _ w4 ⟨rfl, hb4⟩; have s0 : w4.cell? ⟨p, 0, none⟩ = some (.int .i64 me) := cell_keep hb4 u0; have s4 : w4.cell? ⟨p, 4, none⟩ = some lv := cell_keep hb4 u4; have s5 : w4.cell? ⟨p, 5, none⟩ = some (.int .i64 commit) := cell_keep hb4 u5) | (go_at_call 43; refine (HM.out _ (by first | exact below_of_drew hb4 | exact (below_of_drew hb4).drew | exact below_drewN (below_of_drew hb4) _)).mono ?_; rintro _ w5 ⟨rfl, hb5⟩; have t0 : w5.cell? ⟨p, 0, none⟩ = some (.int .i64 me) := cell_keep hb5 (by assumption); have t4 : w5.cell? ⟨p, 4, none⟩ = some lv := cell_keep hb5 (by assumption); have t5 : w5.cell? ⟨p, 5, none⟩ = some (.int .i64 commit) := cell_keep hb5 (by assumption)) | (go_at_call 44; refine (HH.out _).mono ?_; rintro _ w6 ⟨rfl, rfl⟩)
              go_wp2_with fail
              refine hK.out _ _ ?_ ?_
              · ((try dsimp only); go_keep)
              clear hHeld hK K
              intro hHeld
              try simp only [Act.put, List.setIfInBounds_toArray, List.set_cons_zero, List.set_cons_succ]
              refine rg_take 9 (v := ?_) rfl (by kernel_rfl) (by kernel_rfl) (by kernel_rfl) (fun _ _ _ h => h) (by rfl) (by assumption) ?_ ?_
              rotate_left 1
              · (intro w hSw; (try dsimp only at hSw); go_simp; with_reducible rfl)
              try simp only [Act.put, List.setIfInBounds_toArray, List.set_cons_zero, List.set_cons_succ]
              refine rg_take 10 (v := ?_) rfl (by kernel_rfl) (by kernel_rfl) (by kernel_rfl) (fun _ _ _ h => h) (by rfl) (by assumption) ?_ ?_
              rotate_left 1
              · (intro w hSw; (try dsimp only at hSw); go_simp; with_reducible rfl)
              try simp only [Act.put, List.setIfInBounds_toArray, List.set_cons_zero, List.set_cons_succ]
              refine rg_take 11 (v := ?_) rfl (by kernel_rfl) (by kernel_rfl) (by kernel_rfl) (fun _ _ _ h => h) (by rfl) (by assumption) ?_ ?_
              rotate_left 1
              · (intro w hSw; (try dsimp only at hSw); go_simp; with_reducible rfl)
              try simp only [Act.put, List.setIfInBounds_toArray, List.set_cons_zero, List.set_cons_succ]
              refine rg_take 13 (v := ?_) rfl (by kernel_rfl) (by kernel_rfl) (by kernel_rfl) (fun _ _ _ h => h) (by rfl) (by assumption) ?_ ?_
              rotate_left 1
              · (intro w hSw; (try dsimp only at hSw); go_simp; with_reducible rfl)
              try simp only [Act.put, List.setIfInBounds_toArray, List.set_cons_zero, List.set_cons_succ]
              refine rg_take 14 (v := ?_) rfl (by kernel_rfl) (by kernel_rfl) (by kernel_rfl) (fun _ _ _ h => h) (by rfl) (by assumption) ?_ ?_
              rotate_left 1
              · (intro w hSw; (try dsimp only at hSw); go_simp; with_reducible rfl)
              try simp only [Act.put, List.setIfInBounds_toArray, List.set_cons_zero, List.set_cons_succ]
              refine rg_take 15 (v := ?_) rfl (by kernel_rfl) (by kernel_rfl) (by kernel_rfl) (fun _ _ _ h => h) (by rfl) (by assumption) ?_ ?_
              rotate_left 1
              · (intro w hSw; (try dsimp only at hSw); go_simp; with_reducible rfl)
              try simp only [Act.put, List.setIfInBounds_toArray, List.set_cons_zero, List.set_cons_succ]
              refine rg_take 16 (v := ?_) rfl (by kernel_rfl) (by kernel_rfl) (by kernel_rfl) (fun _ _ _ h => h) (by rfl) (by assumption) ?_ ?_
              rotate_left 1
              · (intro w hSw; (try dsimp only at hSw); go_simp; with_reducible rfl)
              try simp only [Act.put, List.setIfInBounds_toArray, List.set_cons_zero, List.set_cons_succ]
              refine wpAnyH_ready (rs := [12]) (by kernel_rfl) (by simp) ?_
              refine rg_step 12 rfl (fun K hK => ?_) (AllReadyH.nil)
              go_simp
              first | (go_at_call 94; refine (HC.out _ (by exact (by repeat (first | exact Below.refl _ _ | assumption | refine below_drewN ?_ _ | refine Below.drew ?_ | refine below_then ?_ (by assumption) | refine below_alloc ?_ _)))).mono ?_; rintro _ w4 ⟨rfl, hb4⟩; have s0 : w4.cell? ⟨p, 0, none⟩ = some (.int .i64 me) := cell_keep hb4 u0; have s4 : w4.cell? ⟨p, 4, none⟩ = some lv := cell_keep hb4 u4; have s5 : w4.cell? ⟨p, 5, none⟩ = some (.int .i64 commit) := cell_keep hb4 u5) | (go_at_call 43; refine (HM.out _ (by first | exact below_of_drew hb4 | exact (below_of_drew hb4).drew | exact below_drewN (below_of_drew hb4) _)).mono ?_; rintro _ w5 ⟨rfl, hb5⟩; have t0 : w5.cell? ⟨p, 0, none⟩ = some (.int .i64 me) := cell_keep hb5 (by assumption); have t4 : w5.cell? ⟨p, 4, none⟩ = some lv := cell_keep hb5 (by assumption); have t5 : w5.cell? ⟨p, 5, none⟩ = some (.int .i64 commit) := cell_keep hb5 (by assumption)) | (go_at_call 44; refine (HH.out _).mono ?_; rintro _ w6 ⟨rfl, rfl⟩)
              go_wp2_with fail
              refine hK.out _ _ ?_ ?_
              · ((try dsimp only); go_keep)
              clear hHeld hK K
              intro hHeld
              try simp only [Act.put, List.setIfInBounds_toArray, List.set_cons_zero, List.set_cons_succ]
              refine wpAnyH_ready (rs := [17]) (by kernel_rfl) (by simp) ?_
              refine rg_step 17 rfl (fun K hK => ?_) (AllReadyH.nil)
              go_simp
              first | (go_at_call 94; refine (HC.out _ (by exact (by repeat (first | exact Below.refl _ _ | assumption | refine below_drewN ?_ _ | refine Below.drew ?_ | refine below_then ?_ (by assumption) | refine below_alloc ?_ _)))).mono ?_; rintro _ w4 ⟨rfl, hb4⟩; have s0 : w4.cell? ⟨p, 0, none⟩ = some (.int .i64 me) := cell_keep hb4 u0; have s4 : w4.cell? ⟨p, 4, none⟩ = some lv := cell_keep hb4 u4; have s5 : w4.cell? ⟨p, 5, none⟩ = some (.int .i64 commit) := cell_keep hb4 u5) | (go_at_call 43; refine (HM.out _ (by first | exact below_of_drew hb4 | exact (below_of_drew hb4).drew | exact below_drewN (below_of_drew hb4) _)).mono ?_; rintro _ w5 ⟨rfl, hb5⟩; have t0 : w5.cell? ⟨p, 0, none⟩ = some (.int .i64 me) := cell_keep hb5 (by assumption); have t4 : w5.cell? ⟨p, 4, none⟩ = some lv := cell_keep hb5 (by assumption); have t5 : w5.cell? ⟨p, 5, none⟩ = some (.int .i64 commit) := cell_keep hb5 (by assumption)) | (go_at_call 44; refine (HH.out _).mono ?_; rintro _ w6 ⟨rfl, rfl⟩)
              go_wp2_with fail
              refine hK.out _ _ ?_ ?_
              · ((try dsimp only); go_keep)
              clear hHeld hK K
              intro hHeld
              try simp only [Act.put, List.setIfInBounds_toArray, List.set_cons_zero, List.set_cons_succ]
              refine rg_take 18 (v := ?_) rfl (by kernel_rfl) (by kernel_rfl) (by kernel_rfl) (fun _ _ _ h => h) (by rfl) (by assumption) ?_ ?_
              rotate_left 1
              · (intro w hSw; (try dsimp only at hSw); go_simp; with_reducible rfl)
              try simp only [Act.put, List.setIfInBounds_toArray, List.set_cons_zero, List.set_cons_succ]
              refine wpAnyH_done (by kernel_rfl) ?_ _
              all_goals
                go_wp2_with fail
                go_ret
                have hbe0 : Below W.heap.size W w4 := below_of_drew hb4
                have hbe := below_then hbe0 hb5
                exact ⟨rfl, by rw [Hnc.out]; exact blk_keep hbe HpW.out, HcW.out.1.trans (Sm.of_below' hbe _), below_next HcW.out.2 hbe (Nat.le_of_lt (Array.getElem?_eq_some_iff.1 HpW.out).1)⟩
      · rw [if_neg (fun h => hgt h.1)] at Hnc
        go_wp2_with fail
        go_quiet (fail)
        all_goals go_wp2_with fail
        obtain ⟨W, hW⟩ : ∃ W, w3.drewN nq = W := ⟨_, rfl⟩
        have hpW : W.heap[p]? = some (.cells #[.int .i64 me, .int .i64 term, x2, x3, lv, .int .i64 commit, x6, x7, x8, x9, x10, x11, x12] 92 (0, 0)) := by rw [← hW]; exact Hp3.out
        have hLW : LogAt S W lv g.parts := by rw [← hW]; exact HL3.out.keep (below_drewN (Below.refl _ _) _)
        have hcW : Sm (fun b => ¬ b = p) w W ∧ Below p w W := by
          rw [← hW]
          have hx := below_drewN hb13 nq
          exact ⟨Sm.of_below' hx _, hx.mono (Nat.le_of_lt (Array.getElem?_eq_some_iff.1 Hh.out).1)⟩
        rw [hW]
        clear hW r1 r4 r5 rf5
        have HcW := Lib.hid hcW
        have HLW := Lib.hid hLW
        have HpW := Lib.hid hpW
        obtain ⟨⟨u0, -, -, -, u4, u5, -⟩, -⟩ := cells13 hpW
        clear hcW hLW hpW
        have HC := Lib.hid fun V (hV : Below W.heap.size W V) => change_any lv g V (HLW.out.keep hV) Hg.out
        have HM := Lib.hid fun V (hV : Below W.heap.size W V) => rmembers_any p _ _ _ _ _ _ _ _ _ _ _ _ _ g V (blk_keep hV HpW.out) (HLW.out.keep hV) Hg.out
        have hmem2 := Hg.out.mem
        have hH := fun V => shas_any g.mem me.toNat V (by omega) (by omega)
        rw [Hhas.out, show ((me.toNat : Nat) : Int) = me by omega] at hH
        have HH := Lib.hid hH
        clear hH hmem2
        by_cases hch : commit < changeAt g
        · refine wp_region_held_drew (S := (fun w' => w'.cell? ⟨p, 4, none⟩ = some lv ∧ w'.cell? ⟨p, 5, none⟩ = some (.int .i64 commit))) (by kernel_rfl) ?_ ?_
          · ((try dsimp only); go_keep)
          intro hHeld
          refine rg_take 0 (v := ?_) rfl (by kernel_rfl) (by kernel_rfl) (by kernel_rfl) (fun _ _ _ h => h) (by rfl) (by assumption) ?_ ?_
          rotate_left 1
          · (intro w hSw; (try dsimp only at hSw); go_simp; with_reducible rfl)
          try simp only [Act.put, List.setIfInBounds_toArray, List.set_cons_zero, List.set_cons_succ]
          refine rg_take 1 (v := ?_) rfl (by kernel_rfl) (by kernel_rfl) (by kernel_rfl) (fun _ _ _ h => h) (by rfl) (by assumption) ?_ ?_
          rotate_left 1
          · (intro w hSw; (try dsimp only at hSw); go_simp; with_reducible rfl)
          try simp only [Act.put, List.setIfInBounds_toArray, List.set_cons_zero, List.set_cons_succ]
          refine rg_take 2 (v := ?_) rfl (by kernel_rfl) (by kernel_rfl) (by kernel_rfl) (fun _ _ _ h => h) (by rfl) (by assumption) ?_ ?_
          rotate_left 1
          · (intro w hSw; (try dsimp only at hSw); go_simp; with_reducible rfl)
          try simp only [Act.put, List.setIfInBounds_toArray, List.set_cons_zero, List.set_cons_succ]
          refine rg_take 3 (v := ?_) rfl (by kernel_rfl) (by kernel_rfl) (by kernel_rfl) (fun _ _ _ h => h) (by rfl) (by assumption) ?_ ?_
          rotate_left 1
          · (intro w hSw; (try dsimp only at hSw); go_simp; with_reducible rfl)
          try simp only [Act.put, List.setIfInBounds_toArray, List.set_cons_zero, List.set_cons_succ]
          refine rg_take 4 (v := ?_) rfl (by kernel_rfl) (by kernel_rfl) (by kernel_rfl) (fun _ _ _ h => h) (by rfl) (by assumption) ?_ ?_
          rotate_left 1
          · (intro w hSw; (try dsimp only at hSw); go_simp; with_reducible rfl)
          try simp only [Act.put, List.setIfInBounds_toArray, List.set_cons_zero, List.set_cons_succ]
          refine rg_take 5 (v := ?_) rfl (by kernel_rfl) (by kernel_rfl) (by kernel_rfl) (fun _ _ _ h => h) (by rfl) (by assumption) ?_ ?_
          rotate_left 1
          · (intro w hSw; (try dsimp only at hSw); go_simp; with_reducible rfl)
          try simp only [Act.put, List.setIfInBounds_toArray, List.set_cons_zero, List.set_cons_succ]
          refine rg_take 6 (v := ?_) rfl (by kernel_rfl) (by kernel_rfl) (by kernel_rfl) (fun _ _ _ h => h) (by rfl) (by assumption) ?_ ?_
          rotate_left 1
          · (intro w hSw; (try dsimp only at hSw); go_simp; with_reducible rfl)
          try simp only [Act.put, List.setIfInBounds_toArray, List.set_cons_zero, List.set_cons_succ]
          refine rg_take 7 (v := ?_) rfl (by kernel_rfl) (by kernel_rfl) (by kernel_rfl) (fun _ _ _ h => h) (by rfl) (by assumption) ?_ ?_
          rotate_left 1
          · (intro w hSw; (try dsimp only at hSw); go_simp; with_reducible rfl)
          try simp only [Act.put, List.setIfInBounds_toArray, List.set_cons_zero, List.set_cons_succ]
          refine wpAnyH_ready (rs := [8]) (by kernel_rfl) (by simp) ?_
          refine rg_step 8 rfl (fun K hK => ?_) (AllReadyH.nil)
          go_simp
          (go_at_call 94; refine (HC.out _ (by exact (by repeat (first | exact Below.refl _ _ | assumption | refine below_drewN ?_ _ | refine Below.drew ?_ | refine below_then ?_ (by assumption) | refine below_alloc ?_ _)))).mono ?_; rintro _ w4 ⟨rfl, hb4⟩; have s4 : w4.cell? ⟨p, 4, none⟩ = some lv := cell_keep hb4 u4; have s5 : w4.cell? ⟨p, 5, none⟩ = some (.int .i64 commit) := cell_keep hb4 u5)
          go_wp2_with fail
          refine hK.out _ _ ?_ ?_
          · ((try dsimp only); go_keep)
          clear hHeld hK K
          intro hHeld
          try simp only [Act.put, List.setIfInBounds_toArray, List.set_cons_zero, List.set_cons_succ]
          refine rg_take 9 (v := ?_) rfl (by kernel_rfl) (by kernel_rfl) (by kernel_rfl) (fun _ _ _ h => h) (by rfl) (by assumption) ?_ ?_
          rotate_left 1
          · (intro w hSw; (try dsimp only at hSw); go_simp; with_reducible rfl)
          try simp only [Act.put, List.setIfInBounds_toArray, List.set_cons_zero, List.set_cons_succ]
          refine rg_take 10 (v := ?_) rfl (by kernel_rfl) (by kernel_rfl) (by kernel_rfl) (fun _ _ _ h => h) (by rfl) (by assumption) ?_ ?_
          rotate_left 1
          · (intro w hSw; (try dsimp only at hSw); go_simp; with_reducible rfl)
          try simp only [Act.put, List.setIfInBounds_toArray, List.set_cons_zero, List.set_cons_succ]
          refine rg_skip 11 rfl (by kernel_rfl) (by kernel_rfl) (by kernel_rfl) (fun _ _ _ h => h) (by rfl) (by assumption) ?_
          try simp only [Act.put, List.setIfInBounds_toArray, List.set_cons_zero, List.set_cons_succ]
          refine rg_skip 12 rfl (by kernel_rfl) (by kernel_rfl) (by kernel_rfl) (fun _ _ _ h => h) (by rfl) (by assumption) ?_
          try simp only [Act.put, List.setIfInBounds_toArray, List.set_cons_zero, List.set_cons_succ]
          refine rg_skip 13 rfl (by kernel_rfl) (by kernel_rfl) (by kernel_rfl) (fun _ _ _ h => h) (by rfl) (by assumption) ?_
          try simp only [Act.put, List.setIfInBounds_toArray, List.set_cons_zero, List.set_cons_succ]
          refine rg_skip 14 rfl (by kernel_rfl) (by kernel_rfl) (by kernel_rfl) (fun _ _ _ h => h) (by rfl) (by assumption) ?_
          try simp only [Act.put, List.setIfInBounds_toArray, List.set_cons_zero, List.set_cons_succ]
          refine rg_skip 15 rfl (by kernel_rfl) (by kernel_rfl) (by kernel_rfl) (fun _ _ _ h => h) (by rfl) (by assumption) ?_
          try simp only [Act.put, List.setIfInBounds_toArray, List.set_cons_zero, List.set_cons_succ]
          refine rg_skip 16 rfl (by kernel_rfl) (by kernel_rfl) (by kernel_rfl) (fun _ _ _ h => h) (by rfl) (by assumption) ?_
          try simp only [Act.put, List.setIfInBounds_toArray, List.set_cons_zero, List.set_cons_succ]
          refine rg_skip 17 rfl (by kernel_rfl) (by kernel_rfl) (by kernel_rfl) (fun _ _ _ h => h) (by rfl) (by assumption) ?_
          try simp only [Act.put, List.setIfInBounds_toArray, List.set_cons_zero, List.set_cons_succ]
          refine rg_take 18 (v := ?_) rfl (by kernel_rfl) (by kernel_rfl) (by kernel_rfl) (fun _ _ _ h => h) (by rfl) (by assumption) ?_ ?_
          rotate_left 1
          · (intro w hSw; (try dsimp only at hSw); go_simp; with_reducible rfl)
          try simp only [Act.put, List.setIfInBounds_toArray, List.set_cons_zero, List.set_cons_succ]
          refine wpAnyH_done (by kernel_rfl) ?_ _
          all_goals
            go_wp2_with fail
            go_ret
            have hbe := below_of_drew hb4
            exact ⟨rfl, by rw [Hnc.out]; exact blk_keep hbe HpW.out, HcW.out.1.trans (Sm.of_below' hbe _), below_next HcW.out.2 hbe (Nat.le_of_lt (Array.getElem?_eq_some_iff.1 HpW.out).1)⟩
        · refine wp_region_held_drew (S := (fun w' => w'.cell? ⟨p, 0, none⟩ = some (.int .i64 me) ∧ w'.cell? ⟨p, 4, none⟩ = some lv ∧ w'.cell? ⟨p, 5, none⟩ = some (.int .i64 commit))) (by kernel_rfl) ?_ ?_
          · ((try dsimp only); go_keep)
          intro hHeld
          refine rg_take 0 (v := ?_) rfl (by kernel_rfl) (by kernel_rfl) (by kernel_rfl) (fun _ _ _ h => h) (by rfl) (by assumption) ?_ ?_
          rotate_left 1
          · (intro w hSw; (try dsimp only at hSw); go_simp; with_reducible rfl)
          try simp only [Act.put, List.setIfInBounds_toArray, List.set_cons_zero, List.set_cons_succ]
          refine rg_take 1 (v := ?_) rfl (by kernel_rfl) (by kernel_rfl) (by kernel_rfl) (fun _ _ _ h => h) (by rfl) (by assumption) ?_ ?_
          rotate_left 1
          · (intro w hSw; (try dsimp only at hSw); go_simp; with_reducible rfl)
          try simp only [Act.put, List.setIfInBounds_toArray, List.set_cons_zero, List.set_cons_succ]
          refine rg_take 2 (v := ?_) rfl (by kernel_rfl) (by kernel_rfl) (by kernel_rfl) (fun _ _ _ h => h) (by rfl) (by assumption) ?_ ?_
          rotate_left 1
          · (intro w hSw; (try dsimp only at hSw); go_simp; with_reducible rfl)
          try simp only [Act.put, List.setIfInBounds_toArray, List.set_cons_zero, List.set_cons_succ]
          refine rg_take 3 (v := ?_) rfl (by kernel_rfl) (by kernel_rfl) (by kernel_rfl) (fun _ _ _ h => h) (by rfl) (by assumption) ?_ ?_
          rotate_left 1
          · (intro w hSw; (try dsimp only at hSw); go_simp; with_reducible rfl)
          try simp only [Act.put, List.setIfInBounds_toArray, List.set_cons_zero, List.set_cons_succ]
          refine rg_take 4 (v := ?_) rfl (by kernel_rfl) (by kernel_rfl) (by kernel_rfl) (fun _ _ _ h => h) (by rfl) (by assumption) ?_ ?_
          rotate_left 1
          · (intro w hSw; (try dsimp only at hSw); go_simp; with_reducible rfl)
          try simp only [Act.put, List.setIfInBounds_toArray, List.set_cons_zero, List.set_cons_succ]
          refine rg_take 5 (v := ?_) rfl (by kernel_rfl) (by kernel_rfl) (by kernel_rfl) (fun _ _ _ h => h) (by rfl) (by assumption) ?_ ?_
          rotate_left 1
          · (intro w hSw; (try dsimp only at hSw); go_simp; with_reducible rfl)
          try simp only [Act.put, List.setIfInBounds_toArray, List.set_cons_zero, List.set_cons_succ]
          refine rg_take 6 (v := ?_) rfl (by kernel_rfl) (by kernel_rfl) (by kernel_rfl) (fun _ _ _ h => h) (by rfl) (by assumption) ?_ ?_
          rotate_left 1
          · (intro w hSw; (try dsimp only at hSw); go_simp; with_reducible rfl)
          try simp only [Act.put, List.setIfInBounds_toArray, List.set_cons_zero, List.set_cons_succ]
          refine rg_take 7 (v := ?_) rfl (by kernel_rfl) (by kernel_rfl) (by kernel_rfl) (fun _ _ _ h => h) (by rfl) (by assumption) ?_ ?_
          rotate_left 1
          · (intro w hSw; (try dsimp only at hSw); go_simp; with_reducible rfl)
          try simp only [Act.put, List.setIfInBounds_toArray, List.set_cons_zero, List.set_cons_succ]
          refine wpAnyH_ready (rs := [8]) (by kernel_rfl) (by simp) ?_
          refine rg_step 8 rfl (fun K hK => ?_) (AllReadyH.nil)
          go_simp
          first | (go_at_call 94; refine (HC.out _ (by exact (by repeat (first | exact Below.refl _ _ | assumption | refine below_drewN ?_ _ | refine Below.drew ?_ | refine below_then ?_ (by assumption) | refine below_alloc ?_ _)))).mono ?_; rintro _ w4 ⟨rfl, hb4⟩; have s0 : w4.cell? ⟨p, 0, none⟩ = some (.int .i64 me) := cell_keep hb4 u0; have s4 : w4.cell? ⟨p, 4, none⟩ = some lv := cell_keep hb4 u4; have s5 : w4.cell? ⟨p, 5, none⟩ = some (.int .i64 commit) := cell_keep hb4 u5) | (go_at_call 43; refine (HM.out _ (by first | exact below_of_drew hb4 | exact (below_of_drew hb4).drew | exact below_drewN (below_of_drew hb4) _)).mono ?_; rintro _ w5 ⟨rfl, hb5⟩; have t0 : w5.cell? ⟨p, 0, none⟩ = some (.int .i64 me) := cell_keep hb5 (by assumption); have t4 : w5.cell? ⟨p, 4, none⟩ = some lv := cell_keep hb5 (by assumption); have t5 : w5.cell? ⟨p, 5, none⟩ = some (.int .i64 commit) := cell_keep hb5 (by assumption)) | (go_at_call 44; refine (HH.out _).mono ?_; rintro _ w6 ⟨rfl, rfl⟩)
          go_wp2_with fail
          refine hK.out _ _ ?_ ?_
          · ((try dsimp only); go_keep)
          clear hHeld hK K
          intro hHeld
          try simp only [Act.put, List.setIfInBounds_toArray, List.set_cons_zero, List.set_cons_succ]
          refine rg_take 9 (v := ?_) rfl (by kernel_rfl) (by kernel_rfl) (by kernel_rfl) (fun _ _ _ h => h) (by rfl) (by assumption) ?_ ?_
          rotate_left 1
          · (intro w hSw; (try dsimp only at hSw); go_simp; with_reducible rfl)
          try simp only [Act.put, List.setIfInBounds_toArray, List.set_cons_zero, List.set_cons_succ]
          refine rg_take 10 (v := ?_) rfl (by kernel_rfl) (by kernel_rfl) (by kernel_rfl) (fun _ _ _ h => h) (by rfl) (by assumption) ?_ ?_
          rotate_left 1
          · (intro w hSw; (try dsimp only at hSw); go_simp; with_reducible rfl)
          try simp only [Act.put, List.setIfInBounds_toArray, List.set_cons_zero, List.set_cons_succ]
          refine rg_take 11 (v := ?_) rfl (by kernel_rfl) (by kernel_rfl) (by kernel_rfl) (fun _ _ _ h => h) (by rfl) (by assumption) ?_ ?_
          rotate_left 1
          · (intro w hSw; (try dsimp only at hSw); go_simp; with_reducible rfl)
          try simp only [Act.put, List.setIfInBounds_toArray, List.set_cons_zero, List.set_cons_succ]
          refine rg_take 13 (v := ?_) rfl (by kernel_rfl) (by kernel_rfl) (by kernel_rfl) (fun _ _ _ h => h) (by rfl) (by assumption) ?_ ?_
          rotate_left 1
          · (intro w hSw; (try dsimp only at hSw); go_simp; with_reducible rfl)
          try simp only [Act.put, List.setIfInBounds_toArray, List.set_cons_zero, List.set_cons_succ]
          refine rg_take 14 (v := ?_) rfl (by kernel_rfl) (by kernel_rfl) (by kernel_rfl) (fun _ _ _ h => h) (by rfl) (by assumption) ?_ ?_
          rotate_left 1
          · (intro w hSw; (try dsimp only at hSw); go_simp; with_reducible rfl)
          try simp only [Act.put, List.setIfInBounds_toArray, List.set_cons_zero, List.set_cons_succ]
          refine rg_take 15 (v := ?_) rfl (by kernel_rfl) (by kernel_rfl) (by kernel_rfl) (fun _ _ _ h => h) (by rfl) (by assumption) ?_ ?_
          rotate_left 1
          · (intro w hSw; (try dsimp only at hSw); go_simp; with_reducible rfl)
          try simp only [Act.put, List.setIfInBounds_toArray, List.set_cons_zero, List.set_cons_succ]
          refine rg_take 16 (v := ?_) rfl (by kernel_rfl) (by kernel_rfl) (by kernel_rfl) (fun _ _ _ h => h) (by rfl) (by assumption) ?_ ?_
          rotate_left 1
          · (intro w hSw; (try dsimp only at hSw); go_simp; with_reducible rfl)
          try simp only [Act.put, List.setIfInBounds_toArray, List.set_cons_zero, List.set_cons_succ]
          refine wpAnyH_ready (rs := [12]) (by kernel_rfl) (by simp) ?_
          refine rg_step 12 rfl (fun K hK => ?_) (AllReadyH.nil)
          go_simp
          first | (go_at_call 94; refine (HC.out _ (by exact (by repeat (first | exact Below.refl _ _ | assumption | refine below_drewN ?_ _ | refine Below.drew ?_ | refine below_then ?_ (by assumption) | refine below_alloc ?_ _)))).mono ?_; rintro _ w4 ⟨rfl, hb4⟩; have s0 : w4.cell? ⟨p, 0, none⟩ = some (.int .i64 me) := cell_keep hb4 u0; have s4 : w4.cell? ⟨p, 4, none⟩ = some lv := cell_keep hb4 u4; have s5 : w4.cell? ⟨p, 5, none⟩ = some (.int .i64 commit) := cell_keep hb4 u5) | (go_at_call 43; refine (HM.out _ (by first | exact below_of_drew hb4 | exact (below_of_drew hb4).drew | exact below_drewN (below_of_drew hb4) _)).mono ?_; rintro _ w5 ⟨rfl, hb5⟩; have t0 : w5.cell? ⟨p, 0, none⟩ = some (.int .i64 me) := cell_keep hb5 (by assumption); have t4 : w5.cell? ⟨p, 4, none⟩ = some lv := cell_keep hb5 (by assumption); have t5 : w5.cell? ⟨p, 5, none⟩ = some (.int .i64 commit) := cell_keep hb5 (by assumption)) | (go_at_call 44; refine (HH.out _).mono ?_; rintro _ w6 ⟨rfl, rfl⟩)
          go_wp2_with fail
          refine hK.out _ _ ?_ ?_
          · ((try dsimp only); go_keep)
          clear hHeld hK K
          intro hHeld
          try simp only [Act.put, List.setIfInBounds_toArray, List.set_cons_zero, List.set_cons_succ]
          refine wpAnyH_ready (rs := [17]) (by kernel_rfl) (by simp) ?_
          refine rg_step 17 rfl (fun K hK => ?_) (AllReadyH.nil)
          go_simp
          first | (go_at_call 94; refine (HC.out _ (by exact (by repeat (first | exact Below.refl _ _ | assumption | refine below_drewN ?_ _ | refine Below.drew ?_ | refine below_then ?_ (by assumption) | refine below_alloc ?_ _)))).mono ?_; rintro _ w4 ⟨rfl, hb4⟩; have s0 : w4.cell? ⟨p, 0, none⟩ = some (.int .i64 me) := cell_keep hb4 u0; have s4 : w4.cell? ⟨p, 4, none⟩ = some lv := cell_keep hb4 u4; have s5 : w4.cell? ⟨p, 5, none⟩ = some (.int .i64 commit) := cell_keep hb4 u5) | (go_at_call 43; refine (HM.out _ (by first | exact below_of_drew hb4 | exact (below_of_drew hb4).drew | exact below_drewN (below_of_drew hb4) _)).mono ?_; rintro _ w5 ⟨rfl, hb5⟩; have t0 : w5.cell? ⟨p, 0, none⟩ = some (.int .i64 me) := cell_keep hb5 (by assumption); have t4 : w5.cell? ⟨p, 4, none⟩ = some lv := cell_keep hb5 (by assumption); have t5 : w5.cell? ⟨p, 5, none⟩ = some (.int .i64 commit) := cell_keep hb5 (by assumption)) | (go_at_call 44; refine (HH.out _).mono ?_; rintro _ w6 ⟨rfl, rfl⟩)
          go_wp2_with fail
          refine hK.out _ _ ?_ ?_
          · ((try dsimp only); go_keep)
          clear hHeld hK K
          intro hHeld
          try simp only [Act.put, List.setIfInBounds_toArray, List.set_cons_zero, List.set_cons_succ]
          refine rg_take 18 (v := ?_) rfl (by kernel_rfl) (by kernel_rfl) (by kernel_rfl) (fun _ _ _ h => h) (by rfl) (by assumption) ?_ ?_
          rotate_left 1
          · (intro w hSw; (try dsimp only at hSw); go_simp; with_reducible rfl)
          try simp only [Act.put, List.setIfInBounds_toArray, List.set_cons_zero, List.set_cons_succ]
          refine wpAnyH_done (by kernel_rfl) ?_ _
          all_goals
            go_wp2_with fail
            go_ret
            have hbe0 : Below W.heap.size W w4 := below_of_drew hb4
            have hbe := below_then hbe0 hb5
            exact ⟨rfl, by rw [Hnc.out]; exact blk_keep hbe HpW.out, HcW.out.1.trans (Sm.of_below' hbe _), below_next HcW.out.2 hbe (Nat.le_of_lt (Array.getElem?_eq_some_iff.1 HpW.out).1)⟩
    · have hk5 : (k : Int) < 5 := by omega
      obtain rfl | rfl | rfl | rfl | rfl : k = 0 ∨ k = 1 ∨ k = 2 ∨ k = 3 ∨ k = 4 := by omega
      · go_wp2_with fail
        rw [min_if]
        refine ⟨⟨1, min a0 g.top, a1, a2, a3, a4, rfl, by omega, blk_set hbx _, ?_, hbr.setCell (Nat.le_refl _) _⟩, by simp [intOf]⟩
        simp [mins] at hmin ⊢
        simp [hmin]
      · go_wp2_with fail
        rw [min_if]
        refine ⟨⟨2, a0, min a1 g.top, a2, a3, a4, rfl, by omega, blk_set hbx _, ?_, hbr.setCell (Nat.le_refl _) _⟩, by simp [intOf]⟩
        simp [mins] at hmin ⊢
        simp [hmin]
      · go_wp2_with fail
        rw [min_if]
        refine ⟨⟨3, a0, a1, min a2 g.top, a3, a4, rfl, by omega, blk_set hbx _, ?_, hbr.setCell (Nat.le_refl _) _⟩, by simp [intOf]⟩
        simp [mins] at hmin ⊢
        simp [hmin]
      · go_wp2_with fail
        rw [min_if]
        refine ⟨⟨4, a0, a1, a2, min a3 g.top, a4, rfl, by omega, blk_set hbx _, ?_, hbr.setCell (Nat.le_refl _) _⟩, by simp [intOf]⟩
        simp [mins] at hmin ⊢
        simp [hmin]
      · go_wp2_with fail
        rw [min_if]
        refine ⟨⟨5, a0, a1, a2, a3, min a4 g.top, rfl, by omega, blk_set hbx _, ?_, hbr.setCell (Nat.le_refl _) _⟩, by simp [intOf]⟩
        simp [mins] at hmin ⊢
        simp [hmin]
end Go.Proofs.YtahagecdebadfaaGreat

namespace Go.Proofs.YtahagecdebadfaaGreat

theorem cfg_snoc {p n : Int} {es : List Ent} {e : Ent} (h : p + es.length ≤ n) : cfg p n (es ++ [e]) (es ++ [e]).length = if e.kind = 2 then some (p + es.length, e.mask) else cfg p n es es.length := by
  have hl : (es ++ [e]).length = es.length + 1 := by simp
  rw [hl, cfg_succ (by simp), cfg_left _ _ _ _ _ (Nat.le_refl _)]
  have : (es ++ [e])[es.length]'(by simp) = e := by simp
  rw [this]
  simp [h]
theorem Lg.Good.mem_add {g : Lg} (h : g.Good) {e : Ent} (hok : okSeq g.topTerm [e] = true) (hl : g.ents.length + 1 ≤ 4096) : (g.adds [e]).mem = if e.kind = 2 then (e.cmd.headD 0).toNat else g.mem := by
  obtain ⟨hg, he, -, ha, -, hm⟩ := h.adds [e] hok (by simpa using hl)
  have ht : (g.adds [e]).top = g.top + 1 := by unfold Lg.top; rw [he, ha]; simp; omega
  have h0 := h.top0
  have e1 : (g.adds [e]).change (g.top + 1) = if e.kind = 2 then some (g.a + 1 + g.ents.length, e.mask) else g.change g.top := by
    unfold Lg.change
    rw [he, ha, cfg_snoc (by unfold Lg.top; omega)]
    rw [cfg_below (n := g.top + 1) (m := g.top) g.ents.length (Nat.le_refl _) (by unfold Lg.top; omega) (by unfold Lg.top; omega)]
  have e2 : (g.adds [e]).memAt (g.top + 1) = if e.kind = 2 then e.mask else g.memAt g.top := by
    unfold Lg.memAt
    rw [ht, ha, if_neg (by omega : ¬ (g.top + 1 < g.a ∨ g.top + 1 < g.top + 1)), if_neg (by omega : ¬ (g.top < g.a ∨ g.top < g.top)), hm, e1]
    by_cases hk : e.kind = 2
    · rw [if_pos hk, if_pos hk]
    · rw [if_neg hk, if_neg hk]
  unfold Lg.mem
  rw [ht, e2]
  split
  · simp [Ent.mask]
  · rfl
theorem best_alone {t : Int} (h : 0 ≤ t) : bestGo [t, 0, 0, 0, 0] 1 5 = t := by
  have e : rulesB 1 1 = true := by decide +kernel
  by_cases h0 : t = 0
  · subst h0; simp [bestGo, nth5]
  · have h1 : 0 < t := by omega
    have h2 : ¬ t ≤ 0 := by omega
    have h3 : ¬ t < 0 := by omega
    simp [bestGo, nth5, geSet, h1, h2, h3, e]
theorem best_two {t : Int} (h : 0 ≤ t) : bestGo [t, 0, 0, 0, 0] 3 5 = 0 := by
  have e : rulesB 1 3 = false := by decide +kernel
  by_cases h0 : t = 0
  · subst h0; simp [bestGo, nth5]
  · have h1 : 0 < t := by omega
    have h2 : ¬ t ≤ 0 := by omega
    simp [bestGo, nth5, geSet, h2, e]
theorem commit_alone {g : Lg} (h : g.Good) (hm : g.mem = 1) {term c : Int} (ht : g.topTerm = term) (hc : c ≤ g.top) : newCommit g term c 0 [0, 0, 0, 0, 0] = g.top := by
  have h0 := h.topR.1
  unfold newCommit
  have e : (([0, 0, 0, 0, 0] : List Int).map (min · g.top)).set 0 g.top = [g.top, 0, 0, 0, 0] := by simp [Int.min_eq_left h0]
  rw [e, hm, best_alone h0, h.topTerm, ht]
  split
  · rfl
  · rename_i hn
    have : ¬ c < g.top := fun h => hn ⟨h, rfl⟩
    omega
theorem commit_two {g : Lg} (h : g.Good) (hm : g.mem = 3) {term c : Int} (hc : 0 ≤ c) : newCommit g term c 0 [0, 0, 0, 0, 0] = c := by
  have h0 := h.topR.1
  unfold newCommit
  have e : (([0, 0, 0, 0, 0] : List Int).map (min · g.top)).set 0 g.top = [g.top, 0, 0, 0, 0] := by simp [Int.min_eq_left h0]
  rw [e, hm, best_two h0, if_neg (by omega)]
end Go.Proofs.YtahagecdebadfaaGreat

namespace Go.Proofs.YtahagecdebadfaaGreat
open Go.RowKit
attribute [local go_sem ↓] Go.wp_at_zero Go.wp_at_succ

set_option maxHeartbeats 4000000 in
/-- Nobody else is a member: nobody is called. -/
theorem reach_none (p : Nat) (me : Int) (f : Value) (all : Nat) (ha : all < 256) (x1 x2 x3 x4 x5 x6 x7 x8 x9 x10 x11 x12 : Value) (w : World) (h : w.heap[p]? = some (.cells #[.int .i64 me, x1, x2, x3, x4, x5, x6, x7, x8, x9, x10, x11, x12] 92 (0, 0))) (_hm : 0 ≤ me) (hm' : me < 5)
    (hM : ∀ W, Below w.heap.size w W → Calls Tryz.prog 43 #[.pointer (some ⟨p, 0, none⟩)] W fun e w' => e = .returned (.int .i64 all) ∧ Below W.heap.size W w')
    (hno : ∀ i : Nat, i < 5 → (i : Int) ≠ me → hasB all i = false) :
    Calls Tryz.prog 46 #[.pointer (some ⟨p, 0, none⟩), f] w fun e w' => e = .returned (.tuple #[]) ∧ Below w.heap.size w w' := by
  obtain ⟨⟨c0, c1, c2, c3, c4, c5, c6, c7, c8, c9, c10, c11, c12⟩, hf⟩ := cells13 h
  have HM := Lib.hid (hM w (Below.refl _ _))
  have Hno := Lib.hid hno
  have hh := fun i W (hi : i < 5) => shas_any all i W ha hi
  have Hh := Lib.hid hh
  clear hM hno hh
  go_enter Tryz.func46, Tryz.ntmps46
  go_wp2_with fail
  refine HM.out.mono ?_
  rintro e w1 ⟨rfl, hb1⟩
  have k0 := cell_keep hb1 c0
  go_wp2_with fail
  go_loop [5] (fun n => ∃ k : Nat, n = .int .i64 k ∧ k ≤ 5) (fun n => (5 - intOf n).toNat)
  case atStart => exact ⟨0, rfl, by omega⟩
  case round =>
    obtain ⟨k, rfl, hk⟩ := hrel
    by_cases h5 : k = 5
    · subst h5
      go_wp2_with fail
      go_end0
      exact ⟨rfl, hb1⟩
    · have hk5 : (k : Int) < 5 := by omega
      by_cases hkm : (k : Int) = me
      · have hne : ((k : Int) != me) = false := by rw [hkm]; simp
        go_wp2_with fail
        refine ⟨⟨k + 1, by simp [hkm], by omega⟩, ?_⟩
        simp only [intOf]; omega
      · have hne : ((k : Int) != me) = true := by simpa using hkm
        have HH := Lib.hid fun W => Hh.out k W (by omega)
        have e1 := Hno.out k (by omega) hkm
        rw [e1] at HH
        go_wp2_with fail
        refine (HH.out _).mono ?_
        rintro e w2 ⟨rfl, rfl⟩
        go_wp2_with fail
        refine ⟨⟨k + 1, by simp, by omega⟩, ?_⟩
        simp only [intOf]; omega
end Go.Proofs.YtahagecdebadfaaGreat

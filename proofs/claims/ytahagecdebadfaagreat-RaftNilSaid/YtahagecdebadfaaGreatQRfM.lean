/- Texts that belong together, in one file: RfG, RfH, RfI, RfJ, RfK, RfM. No statement is proved here. -/
import Derived.Test.YtahagecdebadfaaGreatQRfF
import Derived.Test.YtahagecdebadfaaGreatQEntU
namespace Go.Proofs.YtahagecdebadfaaGreat
open Go.RowKit
attribute [local go_sem ↓] Go.wp_at_zero Go.wp_at_succ

def ups (top : Int) (k : Nat) : List Int := List.replicate k (top + 1) ++ List.replicate (5 - k) 0
set_option maxHeartbeats 4000000 in
theorem rlead_alone {S : Nat → Prop} (p : Nat) (me term commit : Int) (x2 x3 lv : Value) (T : TypeId) (x6 x7 x8 x9 x10 x11 x12 : Value) (g : Lg) (w : World)
    (h : w.heap[p]? = some (.cells #[.int .i64 me, .int .i64 term, x2, x3, lv, .int .i64 commit, .iface T x6, x7, x8, x9, x10, x11, x12] 92 (0, 0)))
    (hL : LogAt S w lv g.parts) (hg : g.Good) (hS : ¬ S p) (hm : 0 ≤ me) (hm' : me < 5) (hhas : hasB g.mem me.toNat = true) (ht1 : 1 ≤ term) (ht2 : term ≤ 1099511627776) (ht3 : g.topTerm ≤ term) (hroom : g.ents.length + 1 ≤ 4096) (hno : ∀ i : Nat, i < 5 → (i : Int) ≠ me → hasB g.mem i = false) :
    Calls Tryz.prog 114 #[.pointer (some ⟨p, 0, none⟩)] w fun e w' => e = .returned (.tuple #[]) ∧ ∃ q q2, w.heap.size ≤ q ∧
      w'.heap[p]? = some (.cells #[.int .i64 me, .int .i64 term, x2, .int .i64 me, q2, .int .i64 (newCommit (g.adds [⟨0, term, []⟩]) term commit me.toNat [0, 0, 0, 0, 0]), .iface 95 (.pointer (some ⟨q, 0, none⟩)), x7, x8, x9, x10, x11, x12] 92 (0, 0)) ∧
      w'.heap[q]? = some (.cells #[.int .i64 1, .int .i64 (g.top + 1), .int .i64 (g.top + 1), .int .i64 (g.top + 1), .int .i64 (g.top + 1), .int .i64 (g.top + 1), .int .i64 0, .int .i64 0, .int .i64 0, .int .i64 0, .int .i64 0, .int .i64 0, .int .i64 0, .int .i64 0, .int .i64 0, .int .i64 0] 99 (0, 0)) ∧
      LogAt (fun b => ¬ b = p ∧ ¬ b = q) w' q2 (g.adds [⟨0, term, []⟩]).parts ∧ Sm (fun b => ¬ b = p) w w' := by
  obtain ⟨⟨c0, c1, c2, c3, c4, c5, c6, c7, c8, c9, c10, c11, c12⟩, hf⟩ := cells13 h
  have hA := blk_alloc (blk_alloc (blk_alloc h (.cells #[.pointer (some ⟨p, 0, none⟩)] 32)) (.cells #[.int .i64 1, .int .i64 0, .int .i64 0, .int .i64 0, .int .i64 0, .int .i64 0, .int .i64 0, .int .i64 0, .int .i64 0, .int .i64 0, .int .i64 0, .int .i64 0, .int .i64 0, .int .i64 0, .int .i64 0, .int .i64 0] 99)) (.cells #[.pointer (some ⟨w.heap.size + 1, 0, none⟩)] 95)
  obtain ⟨⟨a0, a1, a2, a3, a4, a5, a6, a7, a8, a9, a10, a11, a12⟩, af⟩ := cells13 hA
  have HA := Lib.hid hA
  have Ht := Lib.hid fun W (hW : Below w.heap.size w W) => top_run lv g W (hL.keep hW) hg
  clear hA
  go_enter Tryz.func114, Tryz.ntmps114
  go_wp2_with fail
  obtain ⟨W3, hW3⟩ : ∃ W3, ((w.alloc (.cells #[.pointer (some ⟨p, 0, none⟩)] 32)).alloc (.cells #[.int .i64 1, .int .i64 0, .int .i64 0, .int .i64 0, .int .i64 0, .int .i64 0, .int .i64 0, .int .i64 0, .int .i64 0, .int .i64 0, .int .i64 0, .int .i64 0, .int .i64 0, .int .i64 0, .int .i64 0, .int .i64 0] 99)).alloc (.cells #[.pointer (some ⟨w.heap.size + 1, 0, none⟩)] 95) = W3 := ⟨_, rfl⟩
  have hsz : W3.heap.size = w.heap.size + 3 := by rw [← hW3]; simp
  have hbW : Below w.heap.size w W3 := by rw [← hW3]; exact below_alloc (below_alloc (box_below w _) _) _
  have hr3 : W3.heap[w.heap.size]? = some (.cells #[.pointer (some ⟨p, 0, none⟩)] 32 (0, 0)) := by rw [← hW3]; exact blk_alloc (blk_alloc (blk_new w _) _) _
  have hq3 : W3.heap[w.heap.size + 1]? = some (.cells #[.int .i64 1, .int .i64 0, .int .i64 0, .int .i64 0, .int .i64 0, .int .i64 0, .int .i64 0, .int .i64 0, .int .i64 0, .int .i64 0, .int .i64 0, .int .i64 0, .int .i64 0, .int .i64 0, .int .i64 0, .int .i64 0] 99 (0, 0)) := by
    rw [← hW3]
    have := blk_new (w.alloc (.cells #[.pointer (some ⟨p, 0, none⟩)] 32)) (.cells #[.int .i64 1, .int .i64 0, .int .i64 0, .int .i64 0, .int .i64 0, .int .i64 0, .int .i64 0, .int .i64 0, .int .i64 0, .int .i64 0, .int .i64 0, .int .i64 0, .int .i64 0, .int .i64 0, .int .i64 0, .int .i64 0] 99)
    rw [World.size_alloc] at this
    exact blk_alloc this _
  have hx3 : W3.heap[w.heap.size + 1 + 1]? = some (.cells #[.pointer (some ⟨w.heap.size + 1, 0, none⟩)] 95 (0, 0)) := by
    rw [← hW3]
    have := blk_new ((w.alloc (.cells #[.pointer (some ⟨p, 0, none⟩)] 32)).alloc (.cells #[.int .i64 1, .int .i64 0, .int .i64 0, .int .i64 0, .int .i64 0, .int .i64 0, .int .i64 0, .int .i64 0, .int .i64 0, .int .i64 0, .int .i64 0, .int .i64 0, .int .i64 0, .int .i64 0, .int .i64 0, .int .i64 0] 99)) (.cells #[.pointer (some ⟨w.heap.size + 1, 0, none⟩)] 95)
    rw [World.size_alloc, World.size_alloc] at this
    exact this
  rw [hW3] at HA ⊢
  clear hW3
  clear a0 a1 a2 a3 a4 a5 a6 a7 a8 a9 a10 a11 a12 af c0 c1 c2 c3 c4 c5 c6 c7 c8 c9 c10 c11 c12 hf
  refine (Ht.out _ hbW).mono ?_
  rintro e w1 ⟨rfl, hb1⟩
  have Hr1 := Lib.hid (blk_keep hb1 hr3)
  have hq1 := blk_keep hb1 hq3
  have hx1 := blk_keep hb1 hx3
  have Hp1 := Lib.hid (blk_keep hb1 HA.out)
  obtain ⟨q, hq⟩ : ∃ q, w.heap.size + 1 = q := ⟨_, rfl⟩
  rw [hq] at hq1 hx1 ⊢
  have xc := (cells1 hx1).1
  go_wp2_with fail
  have hqp : p ≠ q := by have := (Array.getElem?_eq_some_iff.1 h).1; omega
  have htopR := hg.topR
  go_loopw [18] (fun n wr => ∃ (k : Nat) (n0 n1 n2 n3 n4 : Int), n = .int .i64 k ∧ k ≤ 5 ∧ wr.heap[q]? = some (.cells #[.int .i64 1, .int .i64 n0, .int .i64 n1, .int .i64 n2, .int .i64 n3, .int .i64 n4, .int .i64 0, .int .i64 0, .int .i64 0, .int .i64 0, .int .i64 0, .int .i64 0, .int .i64 0, .int .i64 0, .int .i64 0, .int .i64 0] 99 (0, 0)) ∧ [n0, n1, n2, n3, n4] = ups g.top k ∧ Sm (fun b => ¬ b = q) w1 wr ∧ Below q w1 wr) (fun n _ => (5 - intOf n).toNat)
  case atStart => exact ⟨0, _, _, _, _, _, rfl, by omega, hq1, rfl, Sm.refl _ _, Below.refl _ _⟩
  case round =>
    obtain ⟨k, n0, n1, n2, n3, n4, rfl, hk, hqr, hup, hsr, hbr⟩ := hrel
    have xr := hsr.cell (p := ⟨q + 1, 0, none⟩) (by show ¬ q + 1 = q; omega) xc
    obtain ⟨⟨e0, e1, e2, e3, e4, e5, -⟩, ef⟩ := cells16 hqr
    by_cases h5 : k = 5
    · subst h5
      have hup2 : n0 = g.top + 1 ∧ n1 = g.top + 1 ∧ n2 = g.top + 1 ∧ n3 = g.top + 1 ∧ n4 = g.top + 1 := by simpa [ups, List.replicate] using hup
      obtain ⟨rfl, rfl, rfl, rfl, rfl⟩ := hup2
      clear hup
      have Hpr := Lib.hid (show wr.heap[p]? = some (.cells #[.int .i64 me, .int .i64 term, x2, x3, lv, .int .i64 commit, .iface T x6, x7, x8, x9, x10, x11, x12] 92 (0, 0)) from (hsr.block p hqp (by have := (Array.getElem?_eq_some_iff.1 Hp1.out).1; exact this)).trans Hp1.out)
      have rr := (cells1 ((hsr.block w.heap.size (by show ¬ w.heap.size = q; omega) (Array.getElem?_eq_some_iff.1 Hr1.out).1).trans Hr1.out)).1
      obtain ⟨⟨p0, p1, p2, p3, p4, p5, p6, p7, p8, p9, p10, p11, p12⟩, pf⟩ := cells13 Hpr.out
      clear e0 e1 e2 e3 e4 e5 ef
      go_wp2_with fail
      have hrp : ¬ w.heap.size = p := by have := (Array.getElem?_eq_some_iff.1 h).1; omega
      have hxp : ¬ q + 1 = p := by have := (Array.getElem?_eq_some_iff.1 h).1; omega
      obtain ⟨R, hR⟩ : ∃ R, w.heap.size = R := ⟨_, rfl⟩
      rw [hR] at rr hrp ⊢
      have HR := Lib.hid hR
      clear hR
      refine wp_region_held_drew (S := (fun w' => w'.cell? ⟨R, 0, none⟩ = some (.pointer (some ⟨p, 0, none⟩)) ∧ w'.cell? ⟨q + 1, 0, none⟩ = some (.pointer (some ⟨q, 0, none⟩)) ∧ w'.cell? ⟨p, 0, none⟩ = some (.int .i64 me))) (by kernel_rfl) ?_ ?_
      · ((try dsimp only); first | exact ⟨z1, z2, z3⟩ | go_keep)
      intro hHeld
      refine rg_take 0 (v := ?_) rfl (by kernel_rfl) (by kernel_rfl) (by kernel_rfl) (fun _ _ _ h => h) (by rfl) (by assumption) ?_ ?_
      rotate_left 1
      · (intro w hSw; (try dsimp only at hSw); go_simp; with_reducible rfl)
      try simp only [Act.put, List.setIfInBounds_toArray, List.set_cons_zero, List.set_cons_succ]
      refine rg_take 1 (v := ?_) rfl (by kernel_rfl) (by kernel_rfl) (by kernel_rfl) (fun _ _ _ h => h) (by rfl) (by assumption) ?_ ?_
      rotate_left 1
      · (intro w hSw; (try dsimp only at hSw); go_simp; with_reducible rfl)
      try simp only [Act.put, List.setIfInBounds_toArray, List.set_cons_zero, List.set_cons_succ]
      refine rg_take 2 (v := ?_) rfl (by kernel_rfl) (by kernel_rfl) (by kernel_rfl) (fun _ _ _ h => h) (by rfl) (by assumption) ?_ ?_
      rotate_left 1
      · (intro w hSw; (try dsimp only at hSw); go_simp; with_reducible rfl)
      try simp only [Act.put, List.setIfInBounds_toArray, List.set_cons_zero, List.set_cons_succ]
      refine rg_take 3 (v := ?_) rfl (by kernel_rfl) (by kernel_rfl) (by kernel_rfl) (fun _ _ _ h => h) (by rfl) (by assumption) ?_ ?_
      rotate_left 1
      · (intro w hSw; (try dsimp only at hSw); go_simp; with_reducible rfl)
      try simp only [Act.put, List.setIfInBounds_toArray, List.set_cons_zero, List.set_cons_succ]
      refine rg_take 4 (v := ?_) rfl (by kernel_rfl) (by kernel_rfl) (by kernel_rfl) (fun _ _ _ h => h) (by rfl) (by assumption) ?_ ?_
      rotate_left 1
      · (intro w hSw; (try dsimp only at hSw); go_simp; with_reducible rfl)
      try simp only [Act.put, List.setIfInBounds_toArray, List.set_cons_zero, List.set_cons_succ]
      refine rg_take 5 (v := ?_) rfl (by kernel_rfl) (by kernel_rfl) (by kernel_rfl) (fun _ _ _ h => h) (by rfl) (by assumption) ?_ ?_
      rotate_left 1
      · (intro w hSw; (try dsimp only at hSw); go_simp; with_reducible rfl)
      try simp only [Act.put, List.setIfInBounds_toArray, List.set_cons_zero, List.set_cons_succ]
      refine rg_take 6 (v := ?_) rfl (by kernel_rfl) (by kernel_rfl) (by kernel_rfl) (fun _ _ _ h => h) (by rfl) (by assumption) ?_ ?_
      rotate_left 1
      · (intro w hSw; (try dsimp only at hSw); go_simp; with_reducible rfl)
      try simp only [Act.put, List.setIfInBounds_toArray, List.set_cons_zero, List.set_cons_succ]
      refine wpAnyH_ready (rs := [7]) (by kernel_rfl) (by simp) ?_
      refine rg_step 7 rfl (fun K hK => ?_) (AllReadyH.nil)
      go_simp
      (go_at_call 95; refine (rbe_any p _ _ _ _ _ _ _ _ _ _ _ _ _ _ _ _ _ (by exact Hpr.out)).mono ?_; rintro _ w4 ⟨rfl, rfl⟩; have z1 := (((Sm.refl (fun b => ¬ b = p) wr.drew).setCell (p := ⟨p, 6, none⟩) (fun h => h rfl) (.iface 95 (.pointer (some ⟨q, 0, none⟩)))).setCell (p := ⟨p, 3, none⟩) (fun h => h rfl) (.int .i64 me)).cell (p := ⟨R, 0, none⟩) hrp rr; have z2 := (((Sm.refl (fun b => ¬ b = p) wr.drew).setCell (p := ⟨p, 6, none⟩) (fun h => h rfl) (.iface 95 (.pointer (some ⟨q, 0, none⟩)))).setCell (p := ⟨p, 3, none⟩) (fun h => h rfl) (.int .i64 me)).cell (p := ⟨q + 1, 0, none⟩) hxp xr; obtain ⟨⟨z3, -⟩, -⟩ := cells13 (blk_set (k := 3) (blk_set (k := 6) (W := wr.drew) Hpr.out (.iface 95 (.pointer (some ⟨q, 0, none⟩)))) (.int .i64 me)))
      go_wp2_with fail
      refine hK.out _ _ ?_ ?_
      · ((try dsimp only); first | exact ⟨z1, z2, z3⟩ | go_keep)
      clear hHeld hK K
      intro hHeld
      try simp only [Act.put, List.setIfInBounds_toArray, List.set_cons_zero, List.set_cons_succ]
      refine wpAnyH_done (by kernel_rfl) ?_ _
      obtain ⟨W4, hW4⟩ : ∃ W4, ((wr.setCell ⟨p, 6, none⟩ (.iface 95 (.pointer (some ⟨q, 0, none⟩)))).setCell ⟨p, 3, none⟩ (.int .i64 me)).drew = W4 := ⟨_, rfl⟩
      have hp4 : W4.heap[p]? = some (.cells #[.int .i64 me, .int .i64 term, x2, .int .i64 me, lv, .int .i64 commit, .iface 95 (.pointer (some ⟨q, 0, none⟩)), x7, x8, x9, x10, x11, x12] 92 (0, 0)) := by rw [← hW4]; exact blk_set (blk_set Hpr.out _) _
      have hs4 : Sm (fun b => ¬ b = p) wr W4 := by rw [← hW4]; exact (((Sm.refl (fun b => ¬ b = p) wr).setCell (p := ⟨p, 6, none⟩) (fun h => h rfl) _).setCell (p := ⟨p, 3, none⟩) (fun h => h rfl) _).drew
      have hb4 : Below p wr W4 := by rw [← hW4]; exact (((Below.refl p wr).setCell (p := ⟨p, 6, none⟩) (Nat.le_refl _) _).setCell (p := ⟨p, 3, none⟩) (Nat.le_refl _) _).drew
      have hq4 := (hs4.block q (fun e => hqp e.symm) (Array.getElem?_eq_some_iff.1 hqr).1).trans hqr
      have y1 := hs4.cell (p := ⟨R, 0, none⟩) hrp rr
      have y2 := hs4.cell (p := ⟨q + 1, 0, none⟩) hxp xr
      clear z1 z2 z3
      rw [hW4]
      clear hW4
      obtain ⟨⟨v0, v1, v2, v3, v4, v5, v6, v7, v8, v9, v10, v11, v12⟩, vf⟩ := cells13 hp4
      clear p0 p1 p2 p3 p4 p5 p6 p7 p8 p9 p10 p11 p12 pf rr xr
      go_wp2_with fail
      have hL0 : LogAt (fun b => S b ∧ b < w.heap.size) w lv g.parts := hL.mono (fun b hb hs => ⟨hs, hb⟩)
      have hL4 : LogAt (fun b => S b ∧ b < w.heap.size) W4 lv g.parts := ((hL0.keep (below_then hbW hb1)).keepM (hsr.mono (fun b hb => by have := hb.2; omega))).keepM (hs4.mono (fun b hb e => hS (e ▸ hb.1)))
      have hok : okSeq g.topTerm [⟨0, term, []⟩] = true := by simp [okSeq, rightB, mayB]; omega
      have HWi := Lib.hid fun (V : World) (hV : Below W4.heap.size W4 V) (lw : Value) (hl : Ents (fun b => W4.heap.size ≤ b) V lw [⟨0, term, []⟩]) => with_room lv g lw [⟨0, term, []⟩] V (((hL4.keep hV).mono (T := fun b => (S b ∧ b < w.heap.size) ∨ W4.heap.size ≤ b) (fun b _ hs => .inl hs))) hg (hl.mono (fun b _ hs => .inr hs)) (by simpa using hroom)
      have HW2 := Lib.hid fun (V : World) (hV : Below W4.heap.size W4 V) (lw : Value) (hl : Ents (fun b => W4.heap.size ≤ b) V lw [⟨0, term, []⟩]) => ((HWi.out V hV lw hl).mono (fun e w' (h : _ ∧ _) => show ∃ q2, e = .returned (.tuple #[q2, .int .i64 0]) ∧ LogAt (fun b => ((S b ∧ b < w.heap.size) ∨ W4.heap.size ≤ b) ∨ V.heap.size ≤ b) w' q2 (g.adds [⟨0, term, []⟩]).parts ∧ Below V.heap.size V w' from by
        rcases h.1 with ⟨-, q2, he, hl2⟩ | ⟨hno2, -⟩
        · exact ⟨q2, he, hl2, h.2⟩
        · rw [hok] at hno2; cases hno2))
      clear HWi
      have ht64 : in64 term := ⟨by omega, by omega⟩
      have Hen : ∀ V : World, V.heap.size = W4.heap.size → Ents (fun b => W4.heap.size ≤ b) (V.alloc (.cells #[.int .i64 0, .int .i64 term, .slice none 0 0] 113)) (.slice (some ⟨W4.heap.size, 0, none⟩) 1 1) [⟨0, term, []⟩] := by
        intro V hV
        have hn := blk_new V (.cells #[.int .i64 0, .int .i64 term, .slice none 0 0] 113)
        rw [hV] at hn
        exact ⟨_, RowAt.of_blk (cs := [.int .i64 0, .int .i64 term, .slice none 0 0]) hn (Nat.le_refl _) rfl (by decide), ⟨_, [], rfl, ⟨by show (-9223372036854775808 : Int) ≤ 0; omega, by show (0 : Int) ≤ 9223372036854775807; omega⟩, ht64, ⟨rfl, .inl ⟨rfl, .inl rfl⟩⟩, rfl⟩⟩
      have HEn := Lib.hid Hen
      clear Hen
      refine wp_region_held_drew (S := (fun w' => w'.cell? ⟨R, 0, none⟩ = some (.pointer (some ⟨p, 0, none⟩)) ∧ w'.cell? ⟨p, 1, none⟩ = some (.int .i64 term) ∧ w'.cell? ⟨p, 4, none⟩ = some lv)) (by kernel_rfl) ?_ ?_
      · ((try dsimp only); go_keep)
      intro hHeld
      refine rg_take 0 (v := ?_) rfl (by kernel_rfl) (by kernel_rfl) (by kernel_rfl) (fun _ _ _ h => h) (by rfl) (by assumption) ?_ ?_
      rotate_left 1
      · (intro w hSw; (try dsimp only at hSw); go_simp; with_reducible rfl)
      try simp only [Act.put, List.setIfInBounds_toArray, List.set_cons_zero, List.set_cons_succ]
      refine rg_take 1 (v := ?_) rfl (by kernel_rfl) (by kernel_rfl) (by kernel_rfl) (fun _ _ _ h => h) (by rfl) (by assumption) ?_ ?_
      rotate_left 1
      · (intro w hSw; (try dsimp only at hSw); go_simp; with_reducible rfl)
      try simp only [Act.put, List.setIfInBounds_toArray, List.set_cons_zero, List.set_cons_succ]
      refine rg_take 2 (v := ?_) rfl (by kernel_rfl) (by kernel_rfl) (by kernel_rfl) (fun _ _ _ h => h) (by rfl) (by assumption) ?_ ?_
      rotate_left 1
      · (intro w hSw; (try dsimp only at hSw); go_simp; with_reducible rfl)
      try simp only [Act.put, List.setIfInBounds_toArray, List.set_cons_zero, List.set_cons_succ]
      refine rg_take 3 (v := ?_) rfl (by kernel_rfl) (by kernel_rfl) (by kernel_rfl) (fun _ _ _ h => h) (by rfl) (by assumption) ?_ ?_
      rotate_left 1
      · (intro w hSw; (try dsimp only at hSw); go_simp; with_reducible rfl)
      try simp only [Act.put, List.setIfInBounds_toArray, List.set_cons_zero, List.set_cons_succ]
      refine rg_take 4 (v := ?_) rfl (by kernel_rfl) (by kernel_rfl) (by kernel_rfl) (fun _ _ _ h => h) (by rfl) (by assumption) ?_ ?_
      rotate_left 1
      · (intro w hSw; (try dsimp only at hSw); go_simp; with_reducible rfl)
      try simp only [Act.put, List.setIfInBounds_toArray, List.set_cons_zero, List.set_cons_succ]
      refine rg_take 5 (v := ?_) rfl (by kernel_rfl) (by kernel_rfl) (by kernel_rfl) (fun _ _ _ h => h) (by rfl) (by assumption) ?_ ?_
      rotate_left 1
      · (intro w hSw; (try dsimp only at hSw); go_simp; with_reducible rfl)
      try simp only [Act.put, List.setIfInBounds_toArray, List.set_cons_zero, List.set_cons_succ]
      refine rg_take 6 (v := ?_) rfl (by kernel_rfl) (by kernel_rfl) (by kernel_rfl) (fun _ _ _ h => h) (by rfl) (by assumption) ?_ ?_
      rotate_left 1
      · (intro w hSw; (try dsimp only at hSw); go_simp; with_reducible rfl)
      try simp only [Act.put, List.setIfInBounds_toArray, List.set_cons_zero, List.set_cons_succ]
      refine rg_take 7 (v := ?_) rfl (by kernel_rfl) (by kernel_rfl) (by kernel_rfl) (fun _ _ _ h => h) (by rfl) (by assumption) ?_ ?_
      rotate_left 1
      · (intro w hSw; (try dsimp only at hSw); go_simp; with_reducible rfl)
      try simp only [Act.put, List.setIfInBounds_toArray, List.set_cons_zero, List.set_cons_succ]
      refine rg_take 8 (v := ?_) rfl (by kernel_rfl) (by kernel_rfl) (by kernel_rfl) (fun _ _ _ h => h) (by rfl) (by assumption) ?_ ?_
      rotate_left 1
      · (intro w hSw; (try dsimp only at hSw); go_simp; with_reducible rfl)
      try simp only [Act.put, List.setIfInBounds_toArray, List.set_cons_zero, List.set_cons_succ]
      refine wpAnyH_ready (rs := [9]) (by kernel_rfl) (by simp) ?_
      refine rg_step 9 rfl (fun K hK => ?_) (AllReadyH.nil)
      go_simp
      refine hK.out _ _ ?_ ?_
      · ((try dsimp only); go_keep)
      clear hHeld hK K
      intro hHeld
      try simp only [Act.put, List.setIfInBounds_toArray, List.set_cons_zero, List.set_cons_succ]
      refine wpAnyH_ready (rs := [10]) (by kernel_rfl) (by simp) ?_
      refine rg_step 10 rfl (fun K hK => ?_) (AllReadyH.nil)
      go_simp
      (go_at_call 30; refine (HW2.out _ (by exact (box_below W4 _).drew) _ (by exact (HEn.out W4 rfl).keepM ((Sm.refl _ _).drew))).mono ?_; rintro _ w5 ⟨q2, rfl, hlog, hb5⟩; have b0 : w5.cell? ⟨R, 0, none⟩ = some (.pointer (some ⟨p, 0, none⟩)) := cell_keep hb5 (cell_keep (box_below W4 _) y1); have b1 : w5.cell? ⟨p, 1, none⟩ = some (.int .i64 term) := cell_keep hb5 (cell_keep (box_below W4 _) v1); have b4 : w5.cell? ⟨p, 4, none⟩ = some lv := cell_keep hb5 (cell_keep (box_below W4 _) v4))
      go_wp2_with fail
      refine hK.out _ _ ?_ ?_
      · ((try dsimp only); go_keep)
      clear hHeld hK K
      intro hHeld
      try simp only [Act.put, List.setIfInBounds_toArray, List.set_cons_zero, List.set_cons_succ]
      refine rg_take 11 (v := ?_) rfl (by kernel_rfl) (by kernel_rfl) (by kernel_rfl) (fun _ _ _ h => h) (by rfl) (by assumption) ?_ ?_
      rotate_left 1
      · (intro w hSw; (try dsimp only at hSw); go_simp; with_reducible rfl)
      try simp only [Act.put, List.setIfInBounds_toArray, List.set_cons_zero, List.set_cons_succ]
      refine rg_take 12 (v := ?_) rfl (by kernel_rfl) (by kernel_rfl) (by kernel_rfl) (fun _ _ _ h => h) (by rfl) (by assumption) ?_ ?_
      rotate_left 1
      · (intro w hSw; (try dsimp only at hSw); go_simp; with_reducible rfl)
      try simp only [Act.put, List.setIfInBounds_toArray, List.set_cons_zero, List.set_cons_succ]
      refine rg_take 13 (v := ?_) rfl (by kernel_rfl) (by kernel_rfl) (by kernel_rfl) (fun _ _ _ h => h) (by rfl) (by assumption) ?_ ?_
      rotate_left 1
      · (intro w hSw; (try dsimp only at hSw); go_simp; with_reducible rfl)
      try simp only [Act.put, List.setIfInBounds_toArray, List.set_cons_zero, List.set_cons_succ]
      refine rg_take 14 (v := ?_) rfl (by kernel_rfl) (by kernel_rfl) (by kernel_rfl) (fun _ _ _ h => h) (by rfl) (by assumption) ?_ ?_
      rotate_left 1
      · (intro w hSw; (try dsimp only at hSw); go_simp; with_reducible rfl)
      try simp only [Act.put, List.setIfInBounds_toArray, List.set_cons_zero, List.set_cons_succ]
      refine rg_take 15 (v := ?_) rfl (by kernel_rfl) (by kernel_rfl) (by kernel_rfl) (fun _ _ _ h => h) (by rfl) (by assumption) ?_ ?_
      rotate_left 1
      · (intro w hSw; (try dsimp only at hSw); go_simp; with_reducible rfl)
      try simp only [Act.put, List.setIfInBounds_toArray, List.set_cons_zero, List.set_cons_succ]
      refine wpAnyH_done (by kernel_rfl) ?_ _
      all_goals
        have hbe : Below W4.heap.size W4 w5 := below_then (box_below W4 _).drew hb5
        have hp5 := blk_keep hbe hp4
        have hq5 := blk_keep hbe hq4
        have b2 := cell_keep hbe y2
        have bf4 := (cells13 hp5).2 4
        clear v0 v1 v2 v3 v4 v5 v6 v7 v8 v9 v10 v11 v12 vf y1 y2
        have hg2 := (hg.adds [⟨0, term, []⟩] hok (by simpa using hroom)).1
        have hL5 : LogAt (fun b => ¬ b = p ∧ ¬ b = q) w5 q2 (g.adds [⟨0, term, []⟩]).parts := hlog.mono (fun b hb hs => by have hRe := HR.out; have hsz1 := hb1.size; have hsz2 := hbr.size; have hsz4 := hb4.size; have hplt := (Array.getElem?_eq_some_iff.1 HA.out).1; have hplt2 := (Array.getElem?_eq_some_iff.1 h).1; simp only [World.size_drew, World.size_alloc] at hs; rcases hs with (⟨h1, h2⟩ | h1) | h1; (exact ⟨fun e => hS (e ▸ h1), by omega⟩); (exact ⟨by omega, by omega⟩); (exact ⟨by omega, by omega⟩))
        clear hlog
        obtain ⟨qb, qs, qv, rfl, -⟩ := id hL5
        have HL5 := Lib.hid hL5
        have Hp5 := Lib.hid hp5
        have Hq5 := Lib.hid hq5
        clear hL5 hp5 hq5 HEn HW2 hL4 hL0 hq4 hp4 hqr hL h
        have b0' := fun u => (Sm.refl (fun b => ¬ b = p) w5).setCell (p := ⟨p, 4, none⟩) (fun h => h rfl) u |>.cell (p := ⟨R, 0, none⟩) hrp b0
        have b2' := fun u => (Sm.refl (fun b => ¬ b = p) w5).setCell (p := ⟨p, 4, none⟩) (fun h => h rfl) u |>.cell (p := ⟨q + 1, 0, none⟩) hxp b2
        go_wp2_with fail
        obtain ⟨W6, hW6⟩ : ∃ W6, w5.setCell ⟨p, 4, none⟩ (.pointer (some ⟨qb, 0, none⟩)) = W6 := ⟨_, rfl⟩
        have hp6 : W6.heap[p]? = some (.cells #[.int .i64 me, .int .i64 term, x2, .int .i64 me, .pointer (some ⟨qb, 0, none⟩), .int .i64 commit, .iface 95 (.pointer (some ⟨q, 0, none⟩)), x7, x8, x9, x10, x11, x12] 92 (0, 0)) := by rw [← hW6]; exact blk_set Hp5.out _
        have hs6 : Sm (fun b => ¬ b = p) w5 W6 := by rw [← hW6]; exact (Sm.refl _ _).setCell (fun h => h rfl) _
        have y1 := b0' (.pointer (some ⟨qb, 0, none⟩))
        have y2 := b2' (.pointer (some ⟨qb, 0, none⟩))
        have hq6 := (hs6.block q (fun e => hqp e.symm) (Array.getElem?_eq_some_iff.1 Hq5.out).1).trans Hq5.out
        have hL6 := HL5.out.keepM (hs6.mono (fun b hb => hb.1))
        rw [hW6] at y1 y2 ⊢
        have hcell6 := (cells13 hp6).1
        clear hW6 b0' b2' b0 b1 b2 b4 bf4
        have hhas2 : hasB (g.adds [⟨0, term, []⟩]).mem me.toNat = true := by rw [hg.mem_add hok hroom]; exact hhas
        have HC := Lib.hid (rcount_stay (S := fun b => ¬ b = p ∧ ¬ b = q) p q me term commit 0 0 0 0 0 _ _ _ _ _ _ _ _ _ _ _ _ _ _ _ _ _ _ _ _ _ (g.adds [⟨0, term, []⟩]) W6 hp6 hq6 hL6 hg2 (fun h : ¬ p = p ∧ ¬ p = q => h.1 rfl) hm hm' hhas2)
        refine HC.out.mono ?_
        rintro e w7 ⟨rfl, hp7, hs7, hb7⟩
        have z1 := hs7.cell (p := ⟨R, 0, none⟩) hrp y1
        have z2 := hs7.cell (p := ⟨q + 1, 0, none⟩) hxp y2
        have hq7 := (hs7.block q (fun e => hqp e.symm) (Array.getElem?_eq_some_iff.1 hq6).1).trans hq6
        have hL7 := hL6.keepM (hs7.mono (fun b hb => hb.1))
        have Hp7 := Lib.hid hp7
        have Hq7 := Lib.hid hq7
        have HL7 := Lib.hid hL7
        clear hp7 hq7 hL7 HC hp6 hq6 hL6 hcell6 HL5 Hp5 Hq5
        go_wp2_with fail
        have hmem2 := hg2.mem
        have hmeq : (g.adds [⟨0, term, []⟩]).mem = g.mem := by rw [hg.mem_add hok hroom]; rfl
        have HE := Lib.hid (reach_none p me (.func (Fn.func 134) #[] #[.pointer (some ⟨R, 0, none⟩), .pointer (some ⟨q + 1, 0, none⟩)]) (g.adds [⟨0, term, []⟩]).mem (by omega) _ _ _ _ _ _ _ _ _ _ _ _ w7 Hp7.out hm hm' (fun V hV => rmembers_any p _ _ _ _ _ _ _ _ _ _ _ _ _ (g.adds [⟨0, term, []⟩]) V (blk_keep hV Hp7.out) (HL7.out.keep hV) hg2) (by rw [hmeq]; exact hno))
        clear hmem2 hmeq
        refine HE.out.mono ?_
        rintro e w8 ⟨rfl, hb8⟩
        go_wp2_with fail
        go_end0
        have hRe := HR.out
        refine ⟨rfl, q, _, by omega, blk_keep hb8 Hp7.out, blk_keep hb8 Hq7.out, HL7.out.keep hb8, ?_⟩
        have hplt := (Array.getElem?_eq_some_iff.1 HA.out).1
        have hbwr : Below w.heap.size w wr := (below_then hbW hb1).trans (hbr.mono (by omega))
        exact (((((Sm.of_below' hbwr _).trans hs4).trans (Sm.of_below' hbe _)).trans hs6).trans hs7).trans (Sm.of_below' hb8 _)
    · have hk5 : (k : Int) < 5 := by omega
      have ef1 := ef 1
      have ef2 := ef 2
      have ef3 := ef 3
      have ef4 := ef 4
      have ef5 := ef 5
      obtain rfl | rfl | rfl | rfl | rfl : k = 0 ∨ k = 1 ∨ k = 2 ∨ k = 3 ∨ k = 4 := by omega
      · go_wp2_with fail
        refine ⟨⟨1, g.top + 1, n1, n2, n3, n4, rfl, by omega, blk_set hqr _, ?_, hsr.setCell (fun h => h rfl) _, hbr.setCell (Nat.le_refl _) _⟩, by simp [intOf]⟩
        simp [ups, List.replicate] at hup ⊢
        simp [hup]
      · go_wp2_with fail
        refine ⟨⟨2, n0, g.top + 1, n2, n3, n4, rfl, by omega, blk_set hqr _, ?_, hsr.setCell (fun h => h rfl) _, hbr.setCell (Nat.le_refl _) _⟩, by simp [intOf]⟩
        simp [ups, List.replicate] at hup ⊢
        simp [hup]
      · go_wp2_with fail
        refine ⟨⟨3, n0, n1, g.top + 1, n3, n4, rfl, by omega, blk_set hqr _, ?_, hsr.setCell (fun h => h rfl) _, hbr.setCell (Nat.le_refl _) _⟩, by simp [intOf]⟩
        simp [ups, List.replicate] at hup ⊢
        simp [hup]
      · go_wp2_with fail
        refine ⟨⟨4, n0, n1, n2, g.top + 1, n4, rfl, by omega, blk_set hqr _, ?_, hsr.setCell (fun h => h rfl) _, hbr.setCell (Nat.le_refl _) _⟩, by simp [intOf]⟩
        simp [ups, List.replicate] at hup ⊢
        simp [hup]
      · go_wp2_with fail
        refine ⟨⟨5, n0, n1, n2, n3, g.top + 1, rfl, by omega, blk_set hqr _, ?_, hsr.setCell (fun h => h rfl) _, hbr.setCell (Nat.le_refl _) _⟩, by simp [intOf]⟩
        simp [ups, List.replicate] at hup ⊢
        simp [hup]
end Go.Proofs.YtahagecdebadfaaGreat

namespace Go.Proofs.YtahagecdebadfaaGreat
open Go.RowKit

def noop (term : Int) : Ent := ⟨0, term, []⟩
/-- It leads now: its own block, the leader's, the log. -/
def Led (p : Nat) (me term c top : Int) (x2 x7 x8 x9 x10 x11 x12 : Value) (g2 : Lg) (w w' : World) : Prop := ∃ q q2, w.heap.size ≤ q ∧
  w'.heap[p]? = some (.cells #[.int .i64 me, .int .i64 term, x2, .int .i64 me, q2, .int .i64 c, .iface 95 (.pointer (some ⟨q, 0, none⟩)), x7, x8, x9, x10, x11, x12] 92 (0, 0)) ∧
  w'.heap[q]? = some (.cells #[.int .i64 1, .int .i64 top, .int .i64 top, .int .i64 top, .int .i64 top, .int .i64 top, .int .i64 0, .int .i64 0, .int .i64 0, .int .i64 0, .int .i64 0, .int .i64 0, .int .i64 0, .int .i64 0, .int .i64 0, .int .i64 0] 99 (0, 0)) ∧
  LogAt (fun b => ¬ b = p ∧ ¬ b = q) w' q2 g2.parts ∧ Sm (fun b => ¬ b = p) w w'
theorem Led.before {p : Nat} {me term c top : Int} {x2 x7 x8 x9 x10 x11 x12 : Value} {g2 : Lg} {w0 w w' : World} (h : Led p me term c top x2 x7 x8 x9 x10 x11 x12 g2 w w') (hs : Sm (fun b => ¬ b = p) w0 w) : Led p me term c top x2 x7 x8 x9 x10 x11 x12 g2 w0 w' := by
  obtain ⟨q, q2, h1, h2, h3, h4, h5⟩ := h
  exact ⟨q, q2, Nat.le_trans hs.size h1, h2, h3, h4, hs.trans h5⟩
theorem rbe_same (p : Nat) (x0 x1 x2 x3 x4 x5 x6 x7 x8 x9 x10 x11 x12 : Value) (t : TypeId) (v : Value) (k : Int) (w : World) (h : w.heap[p]? = some (.cells #[x0, x1, x2, x3, x4, x5, x6, x7, x8, x9, x10, x11, x12] 92 (0, 0))) :
    Calls Tryz.prog 95 #[.pointer (some ⟨p, 0, none⟩), .iface t v, .int .i64 k] w fun e w' => e = .returned (.tuple #[]) ∧ w'.heap[p]? = some (.cells #[x0, x1, x2, .int .i64 k, x4, x5, .iface t v, x7, x8, x9, x10, x11, x12] 92 (0, 0)) ∧ Sm (fun b => ¬ b = p) w w' :=
  (rbe_any p x0 x1 x2 x3 x4 x5 x6 x7 x8 x9 x10 x11 x12 t v k w h).mono fun e w' (h' : _ ∧ _) => ⟨h'.1, by rw [h'.2]; exact blk_set (blk_set h _) _, by rw [h'.2]; exact ((Sm.refl _ w).setCell (fun h => h rfl) _).setCell (fun h => h rfl) _⟩
set_option maxHeartbeats 4000000 in
theorem rrun_alone {S : Nat → Prop} (p : Nat) (me term commit : Int) (x2 x3 lv : Value) (T : TypeId) (x6 x7 x8 x9 x10 x11 x12 : Value) (g : Lg) (w : World)
    (h : w.heap[p]? = some (.cells #[.int .i64 me, .int .i64 term, x2, x3, lv, .int .i64 commit, .iface T x6, x7, x8, x9, x10, x11, x12] 92 (0, 0)))
    (hL : LogAt S w lv g.parts) (hg : g.Good) (hS : ¬ S p) (hm : 0 ≤ me) (hm' : me < 5) (hhas : hasB g.mem me.toNat = true) (ht1 : 0 ≤ term) (ht2 : term < 1099511627776) (ht3 : g.topTerm ≤ term) (hroom : g.ents.length + 1 ≤ 4096) (hno : ∀ i : Nat, i < 5 → (i : Int) ≠ me → hasB g.mem i = false) (hone : pop g.mem < 2) :
    Calls Tryz.prog 98 #[.pointer (some ⟨p, 0, none⟩)] w fun e w' => e = .returned (.tuple #[]) ∧
      Led p me (term + 1) (newCommit (g.adds [noop (term + 1)]) (term + 1) commit me.toNat [0, 0, 0, 0, 0]) (g.top + 1) (.int .i64 me) (.int .i64 0) x8 x9 x10 x11 x12 (g.adds [noop (term + 1)]) w w' := by
  have hA := blk_alloc h (.cells #[.pointer (some ⟨p, 0, none⟩)] 32)
  obtain ⟨⟨a0, a1, a2, a3, a4, a5, a6, a7, a8, a9, a10, a11, a12⟩, af⟩ := cells13 hA
  have af1 := af 1
  have af2 := af 2
  have af7 := af 7
  have hbx := box_below w (.cells #[.pointer (some ⟨p, 0, none⟩)] 32)
  have hr := blk_new w (.cells #[.pointer (some ⟨p, 0, none⟩)] 32)
  have HA := Lib.hid hA
  have Hr := Lib.hid hr
  clear hA hr
  go_enter Tryz.func98, Tryz.ntmps98
  go_wp2_with fail
  obtain ⟨W1, hW1⟩ : ∃ W1, (w.alloc (.cells #[.pointer (some ⟨p, 0, none⟩)] 32)).setCell ⟨p, 1, none⟩ (.int .i64 (term + 1)) = W1 := ⟨_, rfl⟩
  have hplt := (Array.getElem?_eq_some_iff.1 h).1
  have hp1 : W1.heap[p]? = some (.cells #[.int .i64 me, .int .i64 (term + 1), x2, x3, lv, .int .i64 commit, .iface T x6, x7, x8, x9, x10, x11, x12] 92 (0, 0)) := by rw [← hW1]; exact blk_set HA.out _
  have hs1 : Sm (fun b => ¬ b = p) w W1 := by rw [← hW1]; exact ((Sm.refl _ w).alloc _).setCell (fun h => h rfl) _
  have hs1' : Sm (fun b => ¬ b = p) (w.alloc (.cells #[.pointer (some ⟨p, 0, none⟩)] 32)) W1 := by rw [← hW1]; exact (Sm.refl _ _).setCell (fun h => h rfl) _
  have hrp : ¬ w.heap.size = p := by omega
  have r1 := hs1'.cell (p := ⟨w.heap.size, 0, none⟩) hrp (cells1 Hr.out).1
  obtain ⟨⟨c0, c1, c2, c3, c4, c5, c6, c7, -⟩, cf⟩ := cells13 hp1
  have cf2 := cf 2
  have cf7 := cf 7
  have hL1 := hL.keepM (hs1.mono (fun b hb e => hS (e ▸ hb)))
  rw [hW1]
  clear hW1 a0 a1 a2 a3 a4 a5 a6 a7 a8 a9 a10 a11 a12 af af1 af2 af7 hs1' hbx cf
  obtain ⟨R, hR⟩ : ∃ R, w.heap.size = R := ⟨_, rfl⟩
  rw [hR] at r1 hrp ⊢
  have HR := Lib.hid hR
  clear hR
  have s2 : Sm (fun b => ¬ b = p) W1 (W1.drew.setCell ⟨p, 2, none⟩ (.int .i64 me)) := ((Sm.refl (fun b => ¬ b = p) W1).drew).setCell (p := ⟨p, 2, none⟩) (fun h => h rfl) (.int .i64 me)
  have s7 : Sm (fun b => ¬ b = p) W1 ((W1.drew.setCell ⟨p, 2, none⟩ (.int .i64 me)).setCell ⟨p, 7, none⟩ (.int .i64 0)) := s2.setCell (p := ⟨p, 7, none⟩) (fun h => h rfl) (.int .i64 0)
  have hp2 := blk_set (k := 2) (W := W1.drew) hp1 (.int .i64 me)
  have hp7 := blk_set (k := 7) hp2 (.int .i64 0)
  have z1 := s2.cell (p := ⟨R, 0, none⟩) hrp r1
  have z2 := s7.cell (p := ⟨R, 0, none⟩) hrp r1
  have z3 := (cells13 hp2).1.1
  have z4 := (cells13 hp7).1.1
  have Hp7 := Lib.hid hp7
  have Hs7 := Lib.hid s7
  clear hp2 hp7 s2 s7
  refine wp_region_held_drew (S := (fun w' => w'.cell? ⟨R, 0, none⟩ = some (.pointer (some ⟨p, 0, none⟩)) ∧ w'.cell? ⟨p, 0, none⟩ = some (.int .i64 me))) (by kernel_rfl) ?_ ?_
  · ((try dsimp only); first | exact ⟨z1, z3⟩ | exact ⟨z2, z4⟩ | go_keep)
  intro hHeld
  refine rg_take 0 (v := ?_) rfl (by kernel_rfl) (by kernel_rfl) (by kernel_rfl) (fun _ _ _ h => h) (by rfl) (by assumption) ?_ ?_
  rotate_left 1
  · (intro w hSw; (try dsimp only at hSw); go_simp; with_reducible rfl)
  try simp only [Act.put, List.setIfInBounds_toArray, List.set_cons_zero, List.set_cons_succ]
  refine rg_take 1 (v := ?_) rfl (by kernel_rfl) (by kernel_rfl) (by kernel_rfl) (fun _ _ _ h => h) (by rfl) (by assumption) ?_ ?_
  rotate_left 1
  · (intro w hSw; (try dsimp only at hSw); go_simp; with_reducible rfl)
  try simp only [Act.put, List.setIfInBounds_toArray, List.set_cons_zero, List.set_cons_succ]
  refine rg_take 2 (v := ?_) rfl (by kernel_rfl) (by kernel_rfl) (by kernel_rfl) (fun _ _ _ h => h) (by rfl) (by assumption) ?_ ?_
  rotate_left 1
  · (intro w hSw; (try dsimp only at hSw); go_simp; with_reducible rfl)
  try simp only [Act.put, List.setIfInBounds_toArray, List.set_cons_zero, List.set_cons_succ]
  refine rg_take 3 (v := ?_) rfl (by kernel_rfl) (by kernel_rfl) (by kernel_rfl) (fun _ _ _ h => h) (by rfl) (by assumption) ?_ ?_
  rotate_left 1
  · (intro w hSw; (try dsimp only at hSw); go_simp; with_reducible rfl)
  try simp only [Act.put, List.setIfInBounds_toArray, List.set_cons_zero, List.set_cons_succ]
  refine rg_take 4 (v := ?_) rfl (by kernel_rfl) (by kernel_rfl) (by kernel_rfl) (fun _ _ _ h => h) (by rfl) (by assumption) ?_ ?_
  rotate_left 1
  · (intro w hSw; (try dsimp only at hSw); go_simp; with_reducible rfl)
  try simp only [Act.put, List.setIfInBounds_toArray, List.set_cons_zero, List.set_cons_succ]
  refine rg_take 5 (v := ?_) rfl (by kernel_rfl) (by kernel_rfl) (by kernel_rfl) (fun _ _ _ h => h) (by rfl) (by assumption) ?_ ?_
  rotate_left 1
  · (intro w hSw; (try dsimp only at hSw); go_simp; with_reducible rfl)
  try simp only [Act.put, List.setIfInBounds_toArray, List.set_cons_zero, List.set_cons_succ]
  refine rg_take 6 (v := ?_) rfl (by kernel_rfl) (by kernel_rfl) (by kernel_rfl) (fun _ _ _ h => h) (by rfl) (by assumption) ?_ ?_
  rotate_left 1
  · (intro w hSw; (try dsimp only at hSw); go_simp; with_reducible rfl)
  try simp only [Act.put, List.setIfInBounds_toArray, List.set_cons_zero, List.set_cons_succ]
  refine rg_take 7 (v := ?_) rfl (by kernel_rfl) (by kernel_rfl) (by kernel_rfl) (fun _ _ _ h => h) (by rfl) (by assumption) ?_ ?_
  rotate_left 1
  · (intro w hSw; (try dsimp only at hSw); go_simp; with_reducible rfl)
  try simp only [Act.put, List.setIfInBounds_toArray, List.set_cons_zero, List.set_cons_succ]
  refine wpAnyH_ready (rs := [8]) (by kernel_rfl) (by simp) ?_
  refine rg_step 8 rfl (fun K hK => ?_) (AllReadyH.nil)
  go_simp
  refine hK.out _ _ ?_ ?_
  · ((try dsimp only); first | exact ⟨z1, z3⟩ | exact ⟨z2, z4⟩ | go_keep)
  clear hHeld hK K
  intro hHeld
  try simp only [Act.put, List.setIfInBounds_toArray, List.set_cons_zero, List.set_cons_succ]
  refine rg_take 9 (v := ?_) rfl (by kernel_rfl) (by kernel_rfl) (by kernel_rfl) (fun _ _ _ h => h) (by rfl) (by assumption) ?_ ?_
  rotate_left 1
  · (intro w hSw; (try dsimp only at hSw); go_simp; with_reducible rfl)
  try simp only [Act.put, List.setIfInBounds_toArray, List.set_cons_zero, List.set_cons_succ]
  refine rg_take 10 (v := ?_) rfl (by kernel_rfl) (by kernel_rfl) (by kernel_rfl) (fun _ _ _ h => h) (by rfl) (by assumption) ?_ ?_
  rotate_left 1
  · (intro w hSw; (try dsimp only at hSw); go_simp; with_reducible rfl)
  try simp only [Act.put, List.setIfInBounds_toArray, List.set_cons_zero, List.set_cons_succ]
  refine wpAnyH_ready (rs := [11]) (by kernel_rfl) (by simp) ?_
  refine rg_step 11 rfl (fun K hK => ?_) (AllReadyH.nil)
  go_simp
  refine hK.out _ _ ?_ ?_
  · ((try dsimp only); first | exact ⟨z1, z3⟩ | exact ⟨z2, z4⟩ | go_keep)
  clear hHeld hK K
  intro hHeld
  try simp only [Act.put, List.setIfInBounds_toArray, List.set_cons_zero, List.set_cons_succ]
  refine wpAnyH_done (by kernel_rfl) ?_ _
  obtain ⟨W2, hW2⟩ : ∃ W2, ((W1.setCell ⟨p, 2, none⟩ (.int .i64 me)).setCell ⟨p, 7, none⟩ (.int .i64 0)).drew = W2 := ⟨_, rfl⟩
  have hp2 : W2.heap[p]? = some (.cells #[.int .i64 me, .int .i64 (term + 1), .int .i64 me, x3, lv, .int .i64 commit, .iface T x6, .int .i64 0, x8, x9, x10, x11, x12] 92 (0, 0)) := by rw [← hW2]; exact Hp7.out
  have hs2 : Sm (fun b => ¬ b = p) W1 W2 := by rw [← hW2]; exact Hs7.out
  have r2 := hs2.cell (p := ⟨R, 0, none⟩) hrp r1
  have hL2 := hL1.keepM (hs2.mono (fun b hb e => hS (e ▸ hb)))
  rw [hW2]
  clear hW2 z1 z2 z3 z4 Hp7 Hs7 c0 c1 c2 c3 c4 c5 c6 c7 cf2 cf7
  obtain ⟨⟨c0, c1, c2, c3, c4, c5, c6, c7, c8, c9, c10, c11, c12⟩, cf⟩ := cells13 hp2
  have HWi := Lib.hid (show ∀ V, Calls Tryz.prog 97 #[.int .i64 0, .int .i64 me] V fun e w' => e = .returned (.int .i64 ((0 ||| 2 ^ me.toNat : Nat) : Int)) ∧ V = w' from fun V => by
    have := swith_any 0 me.toNat V (by omega) (by omega)
    rw [show ((me.toNat : Nat) : Int) = me by omega] at this
    exact this)
  go_wp2_with fail
  have HB := Lib.hid fun V (hV : Below W2.heap.size W2 V) T v => rbe_same p _ _ _ _ _ _ _ _ _ _ _ _ _ T v (-1) V (blk_keep hV hp2)
  refine wp_region_held_drew (S := (fun w' => w'.cell? ⟨R, 0, none⟩ = some (.pointer (some ⟨p, 0, none⟩)) ∧ w'.cell? ⟨p, 0, none⟩ = some (.int .i64 me))) (by kernel_rfl) ?_ ?_
  · ((try dsimp only); first | exact ⟨z1, z2⟩ | go_keep)
  intro hHeld
  refine rg_take 0 (v := ?_) rfl (by kernel_rfl) (by kernel_rfl) (by kernel_rfl) (fun _ _ _ h => h) (by rfl) (by assumption) ?_ ?_
  rotate_left 1
  · (intro w hSw; (try dsimp only at hSw); go_simp; with_reducible rfl)
  try simp only [Act.put, List.setIfInBounds_toArray, List.set_cons_zero, List.set_cons_succ]
  refine rg_take 1 (v := ?_) rfl (by kernel_rfl) (by kernel_rfl) (by kernel_rfl) (fun _ _ _ h => h) (by rfl) (by assumption) ?_ ?_
  rotate_left 1
  · (intro w hSw; (try dsimp only at hSw); go_simp; with_reducible rfl)
  try simp only [Act.put, List.setIfInBounds_toArray, List.set_cons_zero, List.set_cons_succ]
  refine rg_take 2 (v := ?_) rfl (by kernel_rfl) (by kernel_rfl) (by kernel_rfl) (fun _ _ _ h => h) (by rfl) (by assumption) ?_ ?_
  rotate_left 1
  · (intro w hSw; (try dsimp only at hSw); go_simp; with_reducible rfl)
  try simp only [Act.put, List.setIfInBounds_toArray, List.set_cons_zero, List.set_cons_succ]
  refine rg_take 3 (v := ?_) rfl (by kernel_rfl) (by kernel_rfl) (by kernel_rfl) (fun _ _ _ h => h) (by rfl) (by assumption) ?_ ?_
  rotate_left 1
  · (intro w hSw; (try dsimp only at hSw); go_simp; with_reducible rfl)
  try simp only [Act.put, List.setIfInBounds_toArray, List.set_cons_zero, List.set_cons_succ]
  refine rg_take 4 (v := ?_) rfl (by kernel_rfl) (by kernel_rfl) (by kernel_rfl) (fun _ _ _ h => h) (by rfl) (by assumption) ?_ ?_
  rotate_left 1
  · (intro w hSw; (try dsimp only at hSw); go_simp; with_reducible rfl)
  try simp only [Act.put, List.setIfInBounds_toArray, List.set_cons_zero, List.set_cons_succ]
  refine wpAnyH_ready (rs := [5]) (by kernel_rfl) (by simp) ?_
  refine rg_step 5 rfl (fun K hK => ?_) (AllReadyH.nil)
  go_simp
  first | (go_at_call 97; refine (HWi.out _).mono ?_; rintro _ w3 ⟨rfl, rfl⟩) | (go_at_call 95; refine (HB.out _ (by exact (box_below W2 _).drew) _ _).mono ?_; rintro _ w4 ⟨rfl, hp4, hs4⟩; have z1 := hs4.cell (p := ⟨R, 0, none⟩) hrp (cell_keep (box_below W2 _) r2); have z2 := (cells13 hp4).1.1)
  go_wp2_with fail
  refine hK.out _ _ ?_ ?_
  · ((try dsimp only); first | exact ⟨z1, z2⟩ | go_keep)
  clear hHeld hK K
  intro hHeld
  try simp only [Act.put, List.setIfInBounds_toArray, List.set_cons_zero, List.set_cons_succ]
  refine rg_take 6 (v := ?_) rfl (by kernel_rfl) (by kernel_rfl) (by kernel_rfl) (fun _ _ _ h => h) (by rfl) (by assumption) ?_ ?_
  rotate_left 1
  · (intro w hSw; (try dsimp only at hSw); go_simp; with_reducible rfl)
  try simp only [Act.put, List.setIfInBounds_toArray, List.set_cons_zero, List.set_cons_succ]
  refine wpAnyH_ready (rs := [7]) (by kernel_rfl) (by simp) ?_
  refine rg_step 7 rfl (fun K hK => ?_) (AllReadyH.nil)
  go_simp
  refine hK.out _ _ ?_ ?_
  · ((try dsimp only); first | exact ⟨z1, z2⟩ | go_keep)
  clear hHeld hK K
  intro hHeld
  try simp only [Act.put, List.setIfInBounds_toArray, List.set_cons_zero, List.set_cons_succ]
  refine rg_take 8 (v := ?_) rfl (by kernel_rfl) (by kernel_rfl) (by kernel_rfl) (fun _ _ _ h => h) (by rfl) (by assumption) ?_ ?_
  rotate_left 1
  · (intro w hSw; (try dsimp only at hSw); go_simp; with_reducible rfl)
  try simp only [Act.put, List.setIfInBounds_toArray, List.set_cons_zero, List.set_cons_succ]
  refine wpAnyH_ready (rs := [9]) (by kernel_rfl) (by simp) ?_
  refine rg_step 9 rfl (fun K hK => ?_) (AllReadyH.nil)
  go_simp
  first | (go_at_call 97; refine (HWi.out _).mono ?_; rintro _ w3 ⟨rfl, rfl⟩) | (go_at_call 95; refine (HB.out _ (by exact (box_below W2 _).drew) _ _).mono ?_; rintro _ w4 ⟨rfl, hp4, hs4⟩; have z1 := hs4.cell (p := ⟨R, 0, none⟩) hrp (cell_keep (box_below W2 _) r2); have z2 := (cells13 hp4).1.1)
  go_wp2_with fail
  refine hK.out _ _ ?_ ?_
  · ((try dsimp only); first | exact ⟨z1, z2⟩ | go_keep)
  clear hHeld hK K
  intro hHeld
  try simp only [Act.put, List.setIfInBounds_toArray, List.set_cons_zero, List.set_cons_succ]
  refine wpAnyH_done (by kernel_rfl) ?_ _
  go_wp2_with fail
  have hs2b : Sm (fun b => ¬ b = p) W2 w4 := (Sm.of_below' (box_below W2 _).drew _).trans hs4
  have hL4 := hL2.keepM (hs2b.mono (fun b hb e => hS (e ▸ hb)))
  have hs04 := (hs1.trans hs2).trans hs2b
  have hone' : decide (pop g.mem < 2) = true := by simpa using hone
  have HAl := ralone_any p _ _ _ _ _ _ _ _ _ _ _ _ _ g w4 hp4 hL4 hg
  rw [hone'] at HAl
  refine HAl.mono ?_
  rintro e w5 ⟨rfl, hb5⟩
  have r5 := cell_keep hb5 z1
  have Hp5 := Lib.hid (blk_keep hb5 hp4)
  have HL5 := Lib.hid (hL4.keep hb5)
  clear c0 c1 c2 c3 c4 c5 c6 c7 c8 c9 c10 c11 c12 cf HAl HB HWi hp4 hL4 z1 z2 r1 r2 hp2 hL2 hp1 hL1
  go_wp2_with fail
  refine (rlead_alone (S := S) p me (term + 1) commit _ _ lv _ _ _ _ _ _ _ _ g w5 Hp5.out HL5.out hg hS hm hm' hhas (by omega) (by omega) (by omega) hroom hno).mono ?_
  rintro e w6 ⟨rfl, hled⟩
  go_wp2_with fail
  refine bodyPost_ret (results_none (by rfl) _ _ _) rfl ?_
  exact ⟨rfl, Led.before hled (hs04.trans (Sm.of_below' hb5 _))⟩
end Go.Proofs.YtahagecdebadfaaGreat

namespace Go.Proofs.YtahagecdebadfaaGreat
open Go.RowKit

set_option maxHeartbeats 4000000 in
theorem rask_alone {S : Nat → Prop} (p : Nat) (me term commit : Int) (x2 x3 lv : Value) (T : TypeId) (x6 x7 x8 x9 x11 x12 : Value) (g : Lg) (w : World)
    (h : w.heap[p]? = some (.cells #[.int .i64 me, .int .i64 term, x2, x3, lv, .int .i64 commit, .iface T x6, x7, x8, x9, .slice none 0 0, x11, x12] 92 (0, 0)))
    (hL : LogAt S w lv g.parts) (hg : g.Good) (hS : ¬ S p) (hm : 0 ≤ me) (hm' : me < 5) (hhas : hasB g.mem me.toNat = true) (ht1 : 0 ≤ term) (ht2 : term < 1099511627776) (ht3 : g.topTerm ≤ term) (hroom : g.ents.length + 1 ≤ 4096) (hno : ∀ i : Nat, i < 5 → (i : Int) ≠ me → hasB g.mem i = false) (hone : pop g.mem < 2) :
    Calls Tryz.prog 51 #[.pointer (some ⟨p, 0, none⟩)] w fun e w' => e = .returned (.tuple #[]) ∧
      Led p me (term + 1) (newCommit (g.adds [noop (term + 1)]) (term + 1) commit me.toNat [0, 0, 0, 0, 0]) (g.top + 1) (.int .i64 me) (.int .i64 0) x8 (.int .i64 (10 + 2 * me)) (.slice none 0 0) x11 x12 (g.adds [noop (term + 1)]) w w' := by
  have hA := blk_alloc h (.cells #[.pointer (some ⟨p, 0, none⟩)] 32)
  obtain ⟨⟨a0, a1, a2, a3, a4, a5, a6, a7, a8, a9, a10, a11, a12⟩, af⟩ := cells13 hA
  have af7 := af 7
  have hbx := box_below w (.cells #[.pointer (some ⟨p, 0, none⟩)] 32)
  have hr := blk_new w (.cells #[.pointer (some ⟨p, 0, none⟩)] 32)
  have HA := Lib.hid hA
  have Hr := Lib.hid hr
  clear hA hr
  go_enter Tryz.func51, Tryz.ntmps51
  go_wp2_with fail
  obtain ⟨W2, hW2⟩ : ∃ W2, (w.alloc (.cells #[.pointer (some ⟨p, 0, none⟩)] 32)).setCell ⟨p, 7, none⟩ (.int .i64 0) = W2 := ⟨_, rfl⟩
  have hplt := (Array.getElem?_eq_some_iff.1 h).1
  have hp2 : W2.heap[p]? = some (.cells #[.int .i64 me, .int .i64 term, x2, x3, lv, .int .i64 commit, .iface T x6, .int .i64 0, x8, x9, .slice none 0 0, x11, x12] 92 (0, 0)) := by rw [← hW2]; exact blk_set HA.out _
  have hs2 : Sm (fun b => ¬ b = p) w W2 := by rw [← hW2]; exact ((Sm.refl _ w).alloc _).setCell (fun h => h rfl) _
  have hs2' : Sm (fun b => ¬ b = p) (w.alloc (.cells #[.pointer (some ⟨p, 0, none⟩)] 32)) W2 := by rw [← hW2]; exact (Sm.refl _ _).setCell (fun h => h rfl) _
  have hrp : ¬ w.heap.size = p := by omega
  have r2 := hs2'.cell (p := ⟨w.heap.size, 0, none⟩) hrp (cells1 Hr.out).1
  obtain ⟨⟨c0, c1, c2, c3, c4, c5, c6, c7, -⟩, cf⟩ := cells13 hp2
  have hL2 := hL.keepM (hs2.mono (fun b hb e => hS (e ▸ hb)))
  rw [hW2]
  clear hW2 a0 a1 a2 a3 a4 a5 a6 a7 a8 a9 a10 a11 a12 af af7 hs2' hbx
  obtain ⟨R, hR⟩ : ∃ R, w.heap.size = R := ⟨_, rfl⟩
  rw [hR] at r2 hrp ⊢
  have HR := Lib.hid hR
  clear hR
  have HWi := Lib.hid (show ∀ V, Calls Tryz.prog 97 #[.int .i64 0, .int .i64 me] V fun e w' => e = .returned (.int .i64 ((0 ||| 2 ^ me.toNat : Nat) : Int)) ∧ V = w' from fun V => by
    have := swith_any 0 me.toNat V (by omega) (by omega)
    rw [show ((me.toNat : Nat) : Int) = me by omega] at this
    exact this)
  have HB := Lib.hid fun V (hV : Below W2.heap.size W2 V) T v => rbe_same p _ _ _ _ _ _ _ _ _ _ _ _ _ T v (-1) V (blk_keep hV hp2)
  refine wp_region_held_drew (S := (fun w' => w'.cell? ⟨R, 0, none⟩ = some (.pointer (some ⟨p, 0, none⟩)) ∧ w'.cell? ⟨p, 0, none⟩ = some (.int .i64 me))) (by kernel_rfl) ?_ ?_
  · ((try dsimp only); first | exact ⟨z1, z2⟩ | go_keep)
  intro hHeld
  refine rg_take 0 (v := ?_) rfl (by kernel_rfl) (by kernel_rfl) (by kernel_rfl) (fun _ _ _ h => h) (by rfl) (by assumption) ?_ ?_
  rotate_left 1
  · (intro w hSw; (try dsimp only at hSw); go_simp; with_reducible rfl)
  try simp only [Act.put, List.setIfInBounds_toArray, List.set_cons_zero, List.set_cons_succ]
  refine rg_take 1 (v := ?_) rfl (by kernel_rfl) (by kernel_rfl) (by kernel_rfl) (fun _ _ _ h => h) (by rfl) (by assumption) ?_ ?_
  rotate_left 1
  · (intro w hSw; (try dsimp only at hSw); go_simp; with_reducible rfl)
  try simp only [Act.put, List.setIfInBounds_toArray, List.set_cons_zero, List.set_cons_succ]
  refine rg_take 2 (v := ?_) rfl (by kernel_rfl) (by kernel_rfl) (by kernel_rfl) (fun _ _ _ h => h) (by rfl) (by assumption) ?_ ?_
  rotate_left 1
  · (intro w hSw; (try dsimp only at hSw); go_simp; with_reducible rfl)
  try simp only [Act.put, List.setIfInBounds_toArray, List.set_cons_zero, List.set_cons_succ]
  refine rg_take 3 (v := ?_) rfl (by kernel_rfl) (by kernel_rfl) (by kernel_rfl) (fun _ _ _ h => h) (by rfl) (by assumption) ?_ ?_
  rotate_left 1
  · (intro w hSw; (try dsimp only at hSw); go_simp; with_reducible rfl)
  try simp only [Act.put, List.setIfInBounds_toArray, List.set_cons_zero, List.set_cons_succ]
  refine rg_take 4 (v := ?_) rfl (by kernel_rfl) (by kernel_rfl) (by kernel_rfl) (fun _ _ _ h => h) (by rfl) (by assumption) ?_ ?_
  rotate_left 1
  · (intro w hSw; (try dsimp only at hSw); go_simp; with_reducible rfl)
  try simp only [Act.put, List.setIfInBounds_toArray, List.set_cons_zero, List.set_cons_succ]
  refine wpAnyH_ready (rs := [5]) (by kernel_rfl) (by simp) ?_
  refine rg_step 5 rfl (fun K hK => ?_) (AllReadyH.nil)
  go_simp
  first | (go_at_call 97; refine (HWi.out _).mono ?_; rintro _ w3 ⟨rfl, rfl⟩) | (go_at_call 95; refine (HB.out _ (by exact (box_below W2 _).drew) _ _).mono ?_; rintro _ w4 ⟨rfl, hp4, hs4⟩; have z1 := hs4.cell (p := ⟨R, 0, none⟩) hrp (cell_keep (box_below W2 _) r2); have z2 := (cells13 hp4).1.1)
  go_wp2_with fail
  refine hK.out _ _ ?_ ?_
  · ((try dsimp only); first | exact ⟨z1, z2⟩ | go_keep)
  clear hHeld hK K
  intro hHeld
  try simp only [Act.put, List.setIfInBounds_toArray, List.set_cons_zero, List.set_cons_succ]
  refine rg_take 6 (v := ?_) rfl (by kernel_rfl) (by kernel_rfl) (by kernel_rfl) (fun _ _ _ h => h) (by rfl) (by assumption) ?_ ?_
  rotate_left 1
  · (intro w hSw; (try dsimp only at hSw); go_simp; with_reducible rfl)
  try simp only [Act.put, List.setIfInBounds_toArray, List.set_cons_zero, List.set_cons_succ]
  refine wpAnyH_ready (rs := [7]) (by kernel_rfl) (by simp) ?_
  refine rg_step 7 rfl (fun K hK => ?_) (AllReadyH.nil)
  go_simp
  refine hK.out _ _ ?_ ?_
  · ((try dsimp only); first | exact ⟨z1, z2⟩ | go_keep)
  clear hHeld hK K
  intro hHeld
  try simp only [Act.put, List.setIfInBounds_toArray, List.set_cons_zero, List.set_cons_succ]
  refine rg_take 8 (v := ?_) rfl (by kernel_rfl) (by kernel_rfl) (by kernel_rfl) (fun _ _ _ h => h) (by rfl) (by assumption) ?_ ?_
  rotate_left 1
  · (intro w hSw; (try dsimp only at hSw); go_simp; with_reducible rfl)
  try simp only [Act.put, List.setIfInBounds_toArray, List.set_cons_zero, List.set_cons_succ]
  refine wpAnyH_ready (rs := [9]) (by kernel_rfl) (by simp) ?_
  refine rg_step 9 rfl (fun K hK => ?_) (AllReadyH.nil)
  go_simp
  first | (go_at_call 97; refine (HWi.out _).mono ?_; rintro _ w3 ⟨rfl, rfl⟩) | (go_at_call 95; refine (HB.out _ (by exact (box_below W2 _).drew) _ _).mono ?_; rintro _ w4 ⟨rfl, hp4, hs4⟩; have z1 := hs4.cell (p := ⟨R, 0, none⟩) hrp (cell_keep (box_below W2 _) r2); have z2 := (cells13 hp4).1.1)
  go_wp2_with fail
  refine hK.out _ _ ?_ ?_
  · ((try dsimp only); first | exact ⟨z1, z2⟩ | go_keep)
  clear hHeld hK K
  intro hHeld
  try simp only [Act.put, List.setIfInBounds_toArray, List.set_cons_zero, List.set_cons_succ]
  refine wpAnyH_done (by kernel_rfl) ?_ _
  have hs2b : Sm (fun b => ¬ b = p) W2 w4 := (Sm.of_below' (box_below W2 _).drew _).trans hs4
  have hL4 := hL2.keepM (hs2b.mono (fun b hb e => hS (e ▸ hb)))
  have hs04 := hs2.trans hs2b
  have HD := Lib.hid (rdraw_none p me _ _ _ _ _ _ _ _ _ (.bool true) _ _ w4 hp4 hm hm')
  clear HB HWi
  go_wp2_with fail
  refine HD.out.mono ?_
  rintro e w5 ⟨rfl, hw5⟩
  have hp5 : w5.heap[p]? = some (.cells #[.int .i64 me, .int .i64 term, x2, .int .i64 (-1), lv, .int .i64 commit, .iface 141 (.pointer (some ⟨W2.heap.size, 0, none⟩)), .int .i64 0, x8, .int .i64 (10 + 2 * me), .slice none 0 0, x11, x12] 92 (0, 0)) := by rw [hw5]; exact blk_set hp4 _
  have hs5 : Sm (fun b => ¬ b = p) w4 w5 := by rw [hw5]; exact (Sm.refl _ w4).setCell (fun h => h rfl) _
  have hL5 := hL4.keepM (hs5.mono (fun b hb e => hS (e ▸ hb)))
  have r5 := hs5.cell (p := ⟨R, 0, none⟩) hrp z1
  have hone' : decide (pop g.mem < 2) = true := by simpa using hone
  have HAl := ralone_any p _ _ _ _ _ _ _ _ _ _ _ _ _ g w5 hp5 hL5 hg
  rw [hone'] at HAl
  have HAl' := Lib.hid HAl
  clear hw5 HD HAl c0 c1 c2 c3 c4 c5 c6 c7 cf z1 z2 r2 hp4 hL4
  go_wp2_with fail
  refine HAl'.out.mono ?_
  rintro e w6 ⟨rfl, hb6⟩
  have r6 := cell_keep hb6 r5
  have Hp6 := Lib.hid (blk_keep hb6 hp5)
  have HL6 := Lib.hid (hL5.keep hb6)
  clear HAl' hp5 hL5 r5 hp2 hL2
  go_wp2_with fail
  refine (rrun_alone (S := S) p me term commit _ _ lv _ _ _ _ _ _ _ _ g w6 Hp6.out HL6.out hg hS hm hm' hhas ht1 ht2 ht3 hroom hno hone).mono ?_
  rintro e w7 ⟨rfl, hled⟩
  go_wp2_with fail
  refine bodyPost_ret (results_none (by rfl) _ _ _) rfl ?_
  exact ⟨rfl, Led.before hled ((hs04.trans hs5).trans (Sm.of_below' hb6 _))⟩
end Go.Proofs.YtahagecdebadfaaGreat

namespace Go.Proofs.YtahagecdebadfaaGreat
open Go.RowKit

set_option maxHeartbeats 4000000 in
theorem rtick_wait (p : Nat) (wa qu ti : Int) (x0 x1 x2 x3 x4 x5 x6 x10 x11 x12 : Value) (w : World)
    (h : w.heap[p]? = some (.cells #[x0, x1, x2, x3, x4, x5, .iface 88 x6, .int .i64 wa, .int .i64 qu, .int .i64 ti, x10, x11, x12] 92 (0, 0)))
    (hw1 : 0 ≤ wa) (hw2 : wa < 1000000) (hq1 : 0 ≤ qu) (hq2 : qu < 1000000) (hlt : wa + 1 < ti) :
    Calls Tryz.prog 10 #[.pointer (some ⟨p, 0, none⟩)] w fun e w' => e = .returned x12 ∧
      w'.heap[p]? = some (.cells #[x0, x1, x2, x3, x4, x5, .iface 88 x6, .int .i64 (wa + 1), .int .i64 (qu + 1), .int .i64 ti, x10, x11, .slice none 0 0] 92 (0, 0)) ∧ Sm (fun b => ¬ b = p) w w' := by
  have hA := blk_alloc h (.cells #[.pointer (some ⟨p, 0, none⟩)] 32)
  obtain ⟨⟨a0, a1, a2, a3, a4, a5, a6, a7, a8, a9, a10, a11, a12⟩, af⟩ := cells13 hA
  have af8 := af 8
  have hr := blk_new w (.cells #[.pointer (some ⟨p, 0, none⟩)] 32)
  have HA := Lib.hid hA
  have Hr := Lib.hid hr
  clear hA hr
  go_enter Tryz.func10, Tryz.ntmps10
  go_wp2_with fail
  obtain ⟨W1, hW1⟩ : ∃ W1, (w.alloc (.cells #[.pointer (some ⟨p, 0, none⟩)] 32)).setCell ⟨p, 8, none⟩ (.int .i64 (qu + 1)) = W1 := ⟨_, rfl⟩
  have hplt := (Array.getElem?_eq_some_iff.1 h).1
  have hp1 : W1.heap[p]? = some (.cells #[x0, x1, x2, x3, x4, x5, .iface 88 x6, .int .i64 wa, .int .i64 (qu + 1), .int .i64 ti, x10, x11, x12] 92 (0, 0)) := by rw [← hW1]; exact blk_set HA.out _
  have hs1 : Sm (fun b => ¬ b = p) w W1 := by rw [← hW1]; exact ((Sm.refl _ w).alloc _).setCell (fun h => h rfl) _
  have hs1' : Sm (fun b => ¬ b = p) (w.alloc (.cells #[.pointer (some ⟨p, 0, none⟩)] 32)) W1 := by rw [← hW1]; exact (Sm.refl _ _).setCell (fun h => h rfl) _
  have hrp : ¬ w.heap.size = p := by omega
  have r1 := hs1'.cell (p := ⟨w.heap.size, 0, none⟩) hrp (cells1 Hr.out).1
  rw [hW1]
  clear hW1 a0 a1 a2 a3 a4 a5 a6 a7 a8 a9 a10 a11 a12 af af8 hs1'
  obtain ⟨R, hR⟩ : ∃ R, w.heap.size = R := ⟨_, rfl⟩
  rw [hR] at r1 hrp ⊢
  clear hR
  have hlr := block_lt r1
  have hplt1 := (Array.getElem?_eq_some_iff.1 hp1).1
  have Hp1 := Lib.hid hp1
  obtain ⟨⟨c0, c1, c2, c3, c4, c5, c6, c7, c8, c9, c10, c11, c12⟩, cf⟩ := cells13 hp1
  have cf7 := cf 7
  refine (rleads_follower p _ _ _ _ _ _ _ _ _ _ _ _ _ W1 hp1).mono ?_
  rintro e w2 ⟨rfl, hw2⟩
  clear hp1
  subst hw2
  go_wp2_with fail
  obtain ⟨W3, hW3⟩ : ∃ W3, (w2.setCell ⟨p, 7, none⟩ (.int .i64 (wa + 1))).alloc (.cells #[.pointer none] 95) = W3 := ⟨_, rfl⟩
  have hp3 : W3.heap[p]? = some (.cells #[x0, x1, x2, x3, x4, x5, .iface 88 x6, .int .i64 (wa + 1), .int .i64 (qu + 1), .int .i64 ti, x10, x11, x12] 92 (0, 0)) := by rw [← hW3]; exact blk_alloc (blk_set Hp1.out _) _
  have hs3 : Sm (fun b => ¬ b = p) w2 W3 := by rw [← hW3]; exact ((Sm.refl _ w2).setCell (fun h => h rfl) _).alloc _
  have r3 := hs3.cell (p := ⟨R, 0, none⟩) hrp r1
  rw [hW3]
  clear hW3 c0 c1 c2 c3 c4 c5 c6 c7 c8 c9 c10 c11 c12 cf cf7
  obtain ⟨⟨c0, c1, c2, c3, c4, c5, c6, c7, c8, c9, c10, c11, c12⟩, cf⟩ := cells13 hp3
  have k1 : (ti ≤ wa + 1) = False := eq_false (by omega)
  have k2 : decide (ti ≤ wa + 1) = false := by simp; omega
  refine wp_region_held_drew (S := (fun w' => w'.cell? ⟨R, 0, none⟩ = some (.pointer (some ⟨p, 0, none⟩)) ∧ w'.cell? ⟨p, 7, none⟩ = some (.int .i64 (wa + 1)) ∧ w'.cell? ⟨p, 9, none⟩ = some (.int .i64 ti))) (by kernel_rfl) ?_ ?_
  · ((try dsimp only); go_keep)
  intro hHeld
  refine rg_take 0 (v := ?_) rfl (by kernel_rfl) (by kernel_rfl) (by kernel_rfl) (fun _ _ _ h => h) (by rfl) (by assumption) ?_ ?_
  rotate_left 1
  · (intro w hSw; (try dsimp only at hSw); go_simp; with_reducible rfl)
  try simp only [Act.put, List.setIfInBounds_toArray, List.set_cons_zero, List.set_cons_succ]
  refine rg_take 1 (v := ?_) rfl (by kernel_rfl) (by kernel_rfl) (by kernel_rfl) (fun _ _ _ h => h) (by rfl) (by assumption) ?_ ?_
  rotate_left 1
  · (intro w hSw; (try dsimp only at hSw); go_simp; with_reducible rfl)
  try simp only [Act.put, List.setIfInBounds_toArray, List.set_cons_zero, List.set_cons_succ]
  refine rg_take 2 (v := ?_) rfl (by kernel_rfl) (by kernel_rfl) (by kernel_rfl) (fun _ _ _ h => h) (by rfl) (by assumption) ?_ ?_
  rotate_left 1
  · (intro w hSw; (try dsimp only at hSw); go_simp; with_reducible rfl)
  try simp only [Act.put, List.setIfInBounds_toArray, List.set_cons_zero, List.set_cons_succ]
  refine rg_take 3 (v := ?_) rfl (by kernel_rfl) (by kernel_rfl) (by kernel_rfl) (fun _ _ _ h => h) (by rfl) (by assumption) ?_ ?_
  rotate_left 1
  · (intro w hSw; (try dsimp only at hSw); go_simp; with_reducible rfl)
  try simp only [Act.put, List.setIfInBounds_toArray, List.set_cons_zero, List.set_cons_succ]
  refine rg_take 4 (v := ?_) rfl (by kernel_rfl) (by kernel_rfl) (by kernel_rfl) (fun _ _ _ h => h) (by rfl) (by assumption) ?_ ?_
  rotate_left 1
  · (intro w hSw; (try dsimp only at hSw); go_simp; with_reducible rfl)
  try simp only [Act.put, List.setIfInBounds_toArray, List.set_cons_zero, List.set_cons_succ]
  refine rg_take 5 (v := ?_) rfl (by kernel_rfl) (by kernel_rfl) (by kernel_rfl) (fun _ _ _ h => h) (by rfl) (by assumption) ?_ ?_
  rotate_left 1
  · (intro w hSw; (try dsimp only at hSw); go_simp; with_reducible rfl)
  try simp only [Act.put, List.setIfInBounds_toArray, List.set_cons_zero, List.set_cons_succ]
  refine rg_take 6 (v := ?_) rfl (by kernel_rfl) (by kernel_rfl) (by kernel_rfl) (fun _ _ _ h => h) (by rfl) (by assumption) ?_ ?_
  rotate_left 1
  · (intro w hSw; (try dsimp only at hSw); go_simp; with_reducible rfl)
  try simp only [Act.put, List.setIfInBounds_toArray, List.set_cons_zero, List.set_cons_succ]
  refine rg_take 7 (v := ?_) rfl (by kernel_rfl) (by kernel_rfl) (by kernel_rfl) (fun _ _ _ h => h) (by rfl) (by assumption) ?_ ?_
  rotate_left 1
  · (intro w hSw; (try dsimp only at hSw); go_simp; with_reducible rfl)
  try simp only [Act.put, List.setIfInBounds_toArray, List.set_cons_zero, List.set_cons_succ]
  refine rg_take 8 (v := ?_) rfl (by kernel_rfl) (by kernel_rfl) (by kernel_rfl) (fun _ _ _ h => h) (by rfl) (by assumption) ?_ ?_
  rotate_left 1
  · (intro w hSw; (try dsimp only at hSw); go_simp; with_reducible rfl)
  try simp only [Act.put, List.setIfInBounds_toArray, List.set_cons_zero, List.set_cons_succ]
  refine rg_take 9 (v := ?_) rfl (by kernel_rfl) (by kernel_rfl) (by kernel_rfl) (fun _ _ _ h => h) (by rfl) (by assumption) ?_ ?_
  rotate_left 1
  · (intro w hSw; (try dsimp only at hSw); go_simp; with_reducible rfl)
  try simp only [Act.put, List.setIfInBounds_toArray, List.set_cons_zero, List.set_cons_succ]
  refine rg_skip 10 rfl (by kernel_rfl) (by kernel_rfl) (by kernel_rfl) (fun _ _ _ h => h) (by rfl) (by assumption) ?_
  try simp only [Act.put, List.setIfInBounds_toArray, List.set_cons_zero, List.set_cons_succ]
  refine rg_skip 11 rfl (by kernel_rfl) (by kernel_rfl) (by kernel_rfl) (fun _ _ _ h => h) (by rfl) (by assumption) ?_
  try simp only [Act.put, List.setIfInBounds_toArray, List.set_cons_zero, List.set_cons_succ]
  refine rg_skip 12 rfl (by kernel_rfl) (by kernel_rfl) (by kernel_rfl) (fun _ _ _ h => h) (by rfl) (by assumption) ?_
  try simp only [Act.put, List.setIfInBounds_toArray, List.set_cons_zero, List.set_cons_succ]
  refine rg_skip 13 rfl (by kernel_rfl) (by kernel_rfl) (by kernel_rfl) (fun _ _ _ h => h) (by rfl) (by assumption) ?_
  try simp only [Act.put, List.setIfInBounds_toArray, List.set_cons_zero, List.set_cons_succ]
  refine rg_skip 14 rfl (by kernel_rfl) (by kernel_rfl) (by kernel_rfl) (fun _ _ _ h => h) (by rfl) (by assumption) ?_
  try simp only [Act.put, List.setIfInBounds_toArray, List.set_cons_zero, List.set_cons_succ]
  refine rg_skip 15 rfl (by kernel_rfl) (by kernel_rfl) (by kernel_rfl) (fun _ _ _ h => h) (by rfl) (by assumption) ?_
  try simp only [Act.put, List.setIfInBounds_toArray, List.set_cons_zero, List.set_cons_succ]
  refine rg_skip 16 rfl (by kernel_rfl) (by kernel_rfl) (by kernel_rfl) (fun _ _ _ h => h) (by rfl) (by assumption) ?_
  try simp only [Act.put, List.setIfInBounds_toArray, List.set_cons_zero, List.set_cons_succ]
  refine rg_take 17 (v := ?_) rfl (by kernel_rfl) (by kernel_rfl) (by kernel_rfl) (fun _ _ _ h => h) (by rfl) (by assumption) ?_ ?_
  rotate_left 1
  · (intro w hSw; (try dsimp only at hSw); go_simp; with_reducible rfl)
  try simp only [Act.put, List.setIfInBounds_toArray, List.set_cons_zero, List.set_cons_succ]
  refine rg_take 18 (v := ?_) rfl (by kernel_rfl) (by kernel_rfl) (by kernel_rfl) (fun _ _ _ h => h) (by rfl) (by assumption) ?_ ?_
  rotate_left 1
  · (intro w hSw; (try dsimp only at hSw); go_simp; with_reducible rfl)
  try simp only [Act.put, List.setIfInBounds_toArray, List.set_cons_zero, List.set_cons_succ]
  refine rg_skip 19 rfl (by kernel_rfl) (by kernel_rfl) (by kernel_rfl) (fun _ _ _ h => h) (by rfl) (by assumption) ?_
  try simp only [Act.put, List.setIfInBounds_toArray, List.set_cons_zero, List.set_cons_succ]
  refine rg_skip 20 rfl (by kernel_rfl) (by kernel_rfl) (by kernel_rfl) (fun _ _ _ h => h) (by rfl) (by assumption) ?_
  try simp only [Act.put, List.setIfInBounds_toArray, List.set_cons_zero, List.set_cons_succ]
  refine rg_skip 21 rfl (by kernel_rfl) (by kernel_rfl) (by kernel_rfl) (fun _ _ _ h => h) (by rfl) (by assumption) ?_
  try simp only [Act.put, List.setIfInBounds_toArray, List.set_cons_zero, List.set_cons_succ]
  refine rg_skip 22 rfl (by kernel_rfl) (by kernel_rfl) (by kernel_rfl) (fun _ _ _ h => h) (by rfl) (by assumption) ?_
  try simp only [Act.put, List.setIfInBounds_toArray, List.set_cons_zero, List.set_cons_succ]
  refine rg_skip 23 rfl (by kernel_rfl) (by kernel_rfl) (by kernel_rfl) (fun _ _ _ h => h) (by rfl) (by assumption) ?_
  try simp only [Act.put, List.setIfInBounds_toArray, List.set_cons_zero, List.set_cons_succ]
  refine rg_take 24 (v := ?_) rfl (by kernel_rfl) (by kernel_rfl) (by kernel_rfl) (fun _ _ _ h => h) (by rfl) (by assumption) ?_ ?_
  rotate_left 1
  · (intro w hSw; (try dsimp only at hSw); go_simp; with_reducible rfl)
  try simp only [Act.put, List.setIfInBounds_toArray, List.set_cons_zero, List.set_cons_succ]
  refine wpAnyH_done (by kernel_rfl) ?_ _
  go_wp2_with fail
  refine (rposted_any p _ _ _ _ _ _ _ _ _ _ _ _ _ W3.drew hp3).mono ?_
  rintro e w4 ⟨rfl, rfl⟩
  go_wp2_with fail
  go_ret
  exact ⟨rfl, blk_set hp3 _, ((hs1.trans hs3).drew).setCell (fun h => h rfl) _⟩
end Go.Proofs.YtahagecdebadfaaGreat

namespace Go.Proofs.YtahagecdebadfaaGreat
open Go.RowKit

theorem Led.after {p : Nat} {me term c top : Int} {x2 x7 x8 x9 x10 x11 x12 y : Value} {g2 : Lg} {w w1 w' : World} (h : Led p me term c top x2 x7 x8 x9 x10 x11 x12 g2 w w1) (hp : p < w.heap.size) (he : w' = w1.setCell ⟨p, 12, none⟩ y) : Led p me term c top x2 x7 x8 x9 x10 x11 y g2 w w' := by
  obtain ⟨q, q2, h1, h2, h3, h4, h5⟩ := h
  have hs : Sm (fun b => ¬ b = p) w1 w' := by rw [he]; exact (Sm.refl _ w1).setCell (fun h => h rfl) _
  refine ⟨q, q2, h1, ?_, (hs.block q (show ¬ q = p by omega) (Array.getElem?_eq_some_iff.1 h3).1).trans h3, h4.keepM (hs.mono (fun b hb => hb.1)), h5.trans hs⟩
  rw [he]
  exact blk_set h2 _

set_option maxHeartbeats 4000000 in
theorem rtick_ask {S : Nat → Prop} (p : Nat) (me term commit wa qu ti : Int) (x2 x3 lv x6 x11 : Value) (g : Lg) (w : World)
    (h : w.heap[p]? = some (.cells #[.int .i64 me, .int .i64 term, x2, x3, lv, .int .i64 commit, .iface 88 x6, .int .i64 wa, .int .i64 qu, .int .i64 ti, .slice none 0 0, x11, .slice none 0 0] 92 (0, 0)))
    (hL : LogAt S w lv g.parts) (hg : g.Good) (hS : ¬ S p) (hm : 0 ≤ me) (hm' : me < 5) (hhas : hasB g.mem me.toNat = true) (ht1 : 0 ≤ term) (ht2 : term < 1099511627776) (ht3 : g.topTerm ≤ term) (hroom : g.ents.length + 1 ≤ 4096) (hno : ∀ i : Nat, i < 5 → (i : Int) ≠ me → hasB g.mem i = false) (hone : pop g.mem < 2)
    (hw1 : 0 ≤ wa) (hw2 : wa < 1000000) (hq1 : 0 ≤ qu) (hq2 : qu < 1000000) (hle : ti ≤ wa + 1) :
    Calls Tryz.prog 10 #[.pointer (some ⟨p, 0, none⟩)] w fun e w' => e = .returned (.slice none 0 0) ∧
      Led p me (term + 1) (newCommit (g.adds [noop (term + 1)]) (term + 1) commit me.toNat [0, 0, 0, 0, 0]) (g.top + 1) (.int .i64 me) (.int .i64 0) (.int .i64 (qu + 1)) (.int .i64 (10 + 2 * me)) (.slice none 0 0) x11 (.slice none 0 0) (g.adds [noop (term + 1)]) w w' := by
  have hA := blk_alloc h (.cells #[.pointer (some ⟨p, 0, none⟩)] 32)
  obtain ⟨⟨a0, a1, a2, a3, a4, a5, a6, a7, a8, a9, a10, a11, a12⟩, af⟩ := cells13 hA
  have af8 := af 8
  have hr := blk_new w (.cells #[.pointer (some ⟨p, 0, none⟩)] 32)
  have HA := Lib.hid hA
  have Hr := Lib.hid hr
  clear hA hr
  go_enter Tryz.func10, Tryz.ntmps10
  go_wp2_with fail
  obtain ⟨W1, hW1⟩ : ∃ W1, (w.alloc (.cells #[.pointer (some ⟨p, 0, none⟩)] 32)).setCell ⟨p, 8, none⟩ (.int .i64 (qu + 1)) = W1 := ⟨_, rfl⟩
  have hplt := (Array.getElem?_eq_some_iff.1 h).1
  have hp1 : W1.heap[p]? = some (.cells #[.int .i64 me, .int .i64 term, x2, x3, lv, .int .i64 commit, .iface 88 x6, .int .i64 wa, .int .i64 (qu + 1), .int .i64 ti, .slice none 0 0, x11, .slice none 0 0] 92 (0, 0)) := by rw [← hW1]; exact blk_set HA.out _
  have hs1 : Sm (fun b => ¬ b = p) w W1 := by rw [← hW1]; exact ((Sm.refl _ w).alloc _).setCell (fun h => h rfl) _
  have hs1' : Sm (fun b => ¬ b = p) (w.alloc (.cells #[.pointer (some ⟨p, 0, none⟩)] 32)) W1 := by rw [← hW1]; exact (Sm.refl _ _).setCell (fun h => h rfl) _
  have hrp : ¬ w.heap.size = p := by omega
  have r1 := hs1'.cell (p := ⟨w.heap.size, 0, none⟩) hrp (cells1 Hr.out).1
  rw [hW1]
  clear hW1 a0 a1 a2 a3 a4 a5 a6 a7 a8 a9 a10 a11 a12 af af8 hs1'
  obtain ⟨R, hR⟩ : ∃ R, w.heap.size = R := ⟨_, rfl⟩
  rw [hR] at r1 hrp ⊢
  clear hR
  have hlr := block_lt r1
  have hplt1 := (Array.getElem?_eq_some_iff.1 hp1).1
  have Hp1 := Lib.hid hp1
  obtain ⟨⟨c0, c1, c2, c3, c4, c5, c6, c7, c8, c9, c10, c11, c12⟩, cf⟩ := cells13 hp1
  have cf7 := cf 7
  refine (rleads_follower p _ _ _ _ _ _ _ _ _ _ _ _ _ W1 hp1).mono ?_
  rintro e w2 ⟨rfl, hw2'⟩
  clear hp1
  subst hw2'
  go_wp2_with fail
  obtain ⟨W3, hW3⟩ : ∃ W3, (w2.setCell ⟨p, 7, none⟩ (.int .i64 (wa + 1))).alloc (.cells #[.pointer none] 95) = W3 := ⟨_, rfl⟩
  have hp3 : W3.heap[p]? = some (.cells #[.int .i64 me, .int .i64 term, x2, x3, lv, .int .i64 commit, .iface 88 x6, .int .i64 (wa + 1), .int .i64 (qu + 1), .int .i64 ti, .slice none 0 0, x11, .slice none 0 0] 92 (0, 0)) := by rw [← hW3]; exact blk_alloc (blk_set Hp1.out _) _
  have hs3 : Sm (fun b => ¬ b = p) w2 W3 := by rw [← hW3]; exact ((Sm.refl _ w2).setCell (fun h => h rfl) _).alloc _
  have r3 := hs3.cell (p := ⟨R, 0, none⟩) hrp r1
  rw [hW3]
  clear hW3 c0 c1 c2 c3 c4 c5 c6 c7 c8 c9 c10 c11 c12 cf cf7
  obtain ⟨⟨c0, c1, c2, c3, c4, c5, c6, c7, c8, c9, c10, c11, c12⟩, cf⟩ := cells13 hp3
  have k1 : (ti ≤ wa + 1) = True := eq_true (by omega)
  have k2 : decide (ti ≤ wa + 1) = true := by simp; omega
  have hs03 := hs1.trans hs3
  have hL3 := hL.keepM (hs03.mono (fun b hb e => hS (e ▸ hb)))
  have HL3 := Lib.hid hL3
  have Hp3 := Lib.hid hp3
  have hmem2 := hg.mem
  have HM := Lib.hid fun V (hV : Below W3.heap.size W3 V) => rmembers_any p _ _ _ _ _ _ _ _ _ _ _ _ _ g V (blk_keep hV Hp3.out) (HL3.out.keep hV) hg
  have HH := Lib.hid (show ∀ V, Calls Tryz.prog 44 #[.int .i64 g.mem, .int .i64 me] V fun e w' => e = .returned (.bool true) ∧ V = w' from fun V => by
    have := shas_any g.mem me.toNat V (by omega) (by omega)
    rw [show ((me.toNat : Nat) : Int) = me by omega, hhas] at this
    exact this)
  have Hhas := Lib.hid hhas
  clear hL3 hp3 hmem2 hhas
  refine wp_region_held_drew (S := (fun w' => w'.cell? ⟨R, 0, none⟩ = some (.pointer (some ⟨p, 0, none⟩)) ∧ w'.cell? ⟨p, 0, none⟩ = some (.int .i64 me) ∧ w'.cell? ⟨p, 1, none⟩ = some (.int .i64 term) ∧ w'.cell? ⟨p, 7, none⟩ = some (.int .i64 (wa + 1)) ∧ w'.cell? ⟨p, 9, none⟩ = some (.int .i64 ti))) (by kernel_rfl) ?_ ?_
  · ((try dsimp only); go_keep)
  intro hHeld
  refine rg_take 0 (v := ?_) rfl (by kernel_rfl) (by kernel_rfl) (by kernel_rfl) (fun _ _ _ h => h) (by rfl) (by assumption) ?_ ?_
  rotate_left 1
  · (intro w hSw; (try dsimp only at hSw); go_simp; with_reducible rfl)
  try simp only [Act.put, List.setIfInBounds_toArray, List.set_cons_zero, List.set_cons_succ]
  refine rg_take 1 (v := ?_) rfl (by kernel_rfl) (by kernel_rfl) (by kernel_rfl) (fun _ _ _ h => h) (by rfl) (by assumption) ?_ ?_
  rotate_left 1
  · (intro w hSw; (try dsimp only at hSw); go_simp; with_reducible rfl)
  try simp only [Act.put, List.setIfInBounds_toArray, List.set_cons_zero, List.set_cons_succ]
  refine rg_take 2 (v := ?_) rfl (by kernel_rfl) (by kernel_rfl) (by kernel_rfl) (fun _ _ _ h => h) (by rfl) (by assumption) ?_ ?_
  rotate_left 1
  · (intro w hSw; (try dsimp only at hSw); go_simp; with_reducible rfl)
  try simp only [Act.put, List.setIfInBounds_toArray, List.set_cons_zero, List.set_cons_succ]
  refine rg_take 3 (v := ?_) rfl (by kernel_rfl) (by kernel_rfl) (by kernel_rfl) (fun _ _ _ h => h) (by rfl) (by assumption) ?_ ?_
  rotate_left 1
  · (intro w hSw; (try dsimp only at hSw); go_simp; with_reducible rfl)
  try simp only [Act.put, List.setIfInBounds_toArray, List.set_cons_zero, List.set_cons_succ]
  refine rg_take 4 (v := ?_) rfl (by kernel_rfl) (by kernel_rfl) (by kernel_rfl) (fun _ _ _ h => h) (by rfl) (by assumption) ?_ ?_
  rotate_left 1
  · (intro w hSw; (try dsimp only at hSw); go_simp; with_reducible rfl)
  try simp only [Act.put, List.setIfInBounds_toArray, List.set_cons_zero, List.set_cons_succ]
  refine rg_take 5 (v := ?_) rfl (by kernel_rfl) (by kernel_rfl) (by kernel_rfl) (fun _ _ _ h => h) (by rfl) (by assumption) ?_ ?_
  rotate_left 1
  · (intro w hSw; (try dsimp only at hSw); go_simp; with_reducible rfl)
  try simp only [Act.put, List.setIfInBounds_toArray, List.set_cons_zero, List.set_cons_succ]
  refine rg_take 6 (v := ?_) rfl (by kernel_rfl) (by kernel_rfl) (by kernel_rfl) (fun _ _ _ h => h) (by rfl) (by assumption) ?_ ?_
  rotate_left 1
  · (intro w hSw; (try dsimp only at hSw); go_simp; with_reducible rfl)
  try simp only [Act.put, List.setIfInBounds_toArray, List.set_cons_zero, List.set_cons_succ]
  refine rg_take 7 (v := ?_) rfl (by kernel_rfl) (by kernel_rfl) (by kernel_rfl) (fun _ _ _ h => h) (by rfl) (by assumption) ?_ ?_
  rotate_left 1
  · (intro w hSw; (try dsimp only at hSw); go_simp; with_reducible rfl)
  try simp only [Act.put, List.setIfInBounds_toArray, List.set_cons_zero, List.set_cons_succ]
  refine rg_take 8 (v := ?_) rfl (by kernel_rfl) (by kernel_rfl) (by kernel_rfl) (fun _ _ _ h => h) (by rfl) (by assumption) ?_ ?_
  rotate_left 1
  · (intro w hSw; (try dsimp only at hSw); go_simp; with_reducible rfl)
  try simp only [Act.put, List.setIfInBounds_toArray, List.set_cons_zero, List.set_cons_succ]
  refine rg_take 9 (v := ?_) rfl (by kernel_rfl) (by kernel_rfl) (by kernel_rfl) (fun _ _ _ h => h) (by rfl) (by assumption) ?_ ?_
  rotate_left 1
  · (intro w hSw; (try dsimp only at hSw); go_simp; with_reducible rfl)
  try simp only [Act.put, List.setIfInBounds_toArray, List.set_cons_zero, List.set_cons_succ]
  refine rg_take 10 (v := ?_) rfl (by kernel_rfl) (by kernel_rfl) (by kernel_rfl) (fun _ _ _ h => h) (by rfl) (by assumption) ?_ ?_
  rotate_left 1
  · (intro w hSw; (try dsimp only at hSw); go_simp; with_reducible rfl)
  try simp only [Act.put, List.setIfInBounds_toArray, List.set_cons_zero, List.set_cons_succ]
  refine rg_take 12 (v := ?_) rfl (by kernel_rfl) (by kernel_rfl) (by kernel_rfl) (fun _ _ _ h => h) (by rfl) (by assumption) ?_ ?_
  rotate_left 1
  · (intro w hSw; (try dsimp only at hSw); go_simp; with_reducible rfl)
  try simp only [Act.put, List.setIfInBounds_toArray, List.set_cons_zero, List.set_cons_succ]
  refine rg_take 13 (v := ?_) rfl (by kernel_rfl) (by kernel_rfl) (by kernel_rfl) (fun _ _ _ h => h) (by rfl) (by assumption) ?_ ?_
  rotate_left 1
  · (intro w hSw; (try dsimp only at hSw); go_simp; with_reducible rfl)
  try simp only [Act.put, List.setIfInBounds_toArray, List.set_cons_zero, List.set_cons_succ]
  refine rg_take 14 (v := ?_) rfl (by kernel_rfl) (by kernel_rfl) (by kernel_rfl) (fun _ _ _ h => h) (by rfl) (by assumption) ?_ ?_
  rotate_left 1
  · (intro w hSw; (try dsimp only at hSw); go_simp; with_reducible rfl)
  try simp only [Act.put, List.setIfInBounds_toArray, List.set_cons_zero, List.set_cons_succ]
  refine rg_take 15 (v := ?_) rfl (by kernel_rfl) (by kernel_rfl) (by kernel_rfl) (fun _ _ _ h => h) (by rfl) (by assumption) ?_ ?_
  rotate_left 1
  · (intro w hSw; (try dsimp only at hSw); go_simp; with_reducible rfl)
  try simp only [Act.put, List.setIfInBounds_toArray, List.set_cons_zero, List.set_cons_succ]
  refine wpAnyH_ready (rs := [11]) (by kernel_rfl) (by simp) ?_
  refine rg_step 11 rfl (fun K hK => ?_) (AllReadyH.nil)
  go_simp
  first | (go_at_call 43; refine (HM.out _ (by exact (Below.refl _ _).drew)).mono ?_; rintro _ w4 ⟨rfl, hb4⟩; have s0 := cell_keep hb4 c0; have s1 := cell_keep hb4 c1; have s7 := cell_keep hb4 c7; have s9 := cell_keep hb4 c9; have sr := cell_keep hb4 r3) | (go_at_call 44; refine (HH.out _).mono ?_; rintro _ w5 ⟨rfl, rfl⟩)
  go_wp2_with fail
  refine hK.out _ _ ?_ ?_
  · ((try dsimp only); go_keep)
  clear hHeld hK K
  intro hHeld
  try simp only [Act.put, List.setIfInBounds_toArray, List.set_cons_zero, List.set_cons_succ]
  refine wpAnyH_ready (rs := [16]) (by kernel_rfl) (by simp) ?_
  refine rg_step 16 rfl (fun K hK => ?_) (AllReadyH.nil)
  go_simp
  first | (go_at_call 43; refine (HM.out _ (by exact (Below.refl _ _).drew)).mono ?_; rintro _ w4 ⟨rfl, hb4⟩; have s0 := cell_keep hb4 c0; have s1 := cell_keep hb4 c1; have s7 := cell_keep hb4 c7; have s9 := cell_keep hb4 c9; have sr := cell_keep hb4 r3) | (go_at_call 44; refine (HH.out _).mono ?_; rintro _ w5 ⟨rfl, rfl⟩)
  go_wp2_with fail
  refine hK.out _ _ ?_ ?_
  · ((try dsimp only); go_keep)
  clear hHeld hK K
  intro hHeld
  try simp only [Act.put, List.setIfInBounds_toArray, List.set_cons_zero, List.set_cons_succ]
  refine rg_take 17 (v := ?_) rfl (by kernel_rfl) (by kernel_rfl) (by kernel_rfl) (fun _ _ _ h => h) (by rfl) (by assumption) ?_ ?_
  rotate_left 1
  · (intro w hSw; (try dsimp only at hSw); go_simp; with_reducible rfl)
  try simp only [Act.put, List.setIfInBounds_toArray, List.set_cons_zero, List.set_cons_succ]
  refine rg_take 18 (v := ?_) rfl (by kernel_rfl) (by kernel_rfl) (by kernel_rfl) (fun _ _ _ h => h) (by rfl) (by assumption) ?_ ?_
  rotate_left 1
  · (intro w hSw; (try dsimp only at hSw); go_simp; with_reducible rfl)
  try simp only [Act.put, List.setIfInBounds_toArray, List.set_cons_zero, List.set_cons_succ]
  refine rg_take 19 (v := ?_) rfl (by kernel_rfl) (by kernel_rfl) (by kernel_rfl) (fun _ _ _ h => h) (by rfl) (by assumption) ?_ ?_
  rotate_left 1
  · (intro w hSw; (try dsimp only at hSw); go_simp; with_reducible rfl)
  try simp only [Act.put, List.setIfInBounds_toArray, List.set_cons_zero, List.set_cons_succ]
  refine rg_take 20 (v := ?_) rfl (by kernel_rfl) (by kernel_rfl) (by kernel_rfl) (fun _ _ _ h => h) (by rfl) (by assumption) ?_ ?_
  rotate_left 1
  · (intro w hSw; (try dsimp only at hSw); go_simp; with_reducible rfl)
  try simp only [Act.put, List.setIfInBounds_toArray, List.set_cons_zero, List.set_cons_succ]
  refine rg_take 21 (v := ?_) rfl (by kernel_rfl) (by kernel_rfl) (by kernel_rfl) (fun _ _ _ h => h) (by rfl) (by assumption) ?_ ?_
  rotate_left 1
  · (intro w hSw; (try dsimp only at hSw); go_simp; with_reducible rfl)
  try simp only [Act.put, List.setIfInBounds_toArray, List.set_cons_zero, List.set_cons_succ]
  refine rg_take 22 (v := ?_) rfl (by kernel_rfl) (by kernel_rfl) (by kernel_rfl) (fun _ _ _ h => h) (by rfl) (by assumption) ?_ ?_
  rotate_left 1
  · (intro w hSw; (try dsimp only at hSw); go_simp; with_reducible rfl)
  try simp only [Act.put, List.setIfInBounds_toArray, List.set_cons_zero, List.set_cons_succ]
  refine rg_take 23 (v := ?_) rfl (by kernel_rfl) (by kernel_rfl) (by kernel_rfl) (fun _ _ _ h => h) (by rfl) (by assumption) ?_ ?_
  rotate_left 1
  · (intro w hSw; (try dsimp only at hSw); go_simp; with_reducible rfl)
  try simp only [Act.put, List.setIfInBounds_toArray, List.set_cons_zero, List.set_cons_succ]
  refine rg_take 24 (v := ?_) rfl (by kernel_rfl) (by kernel_rfl) (by kernel_rfl) (fun _ _ _ h => h) (by rfl) (by assumption) ?_ ?_
  rotate_left 1
  · (intro w hSw; (try dsimp only at hSw); go_simp; with_reducible rfl)
  try simp only [Act.put, List.setIfInBounds_toArray, List.set_cons_zero, List.set_cons_succ]
  refine wpAnyH_done (by kernel_rfl) ?_ _
  have hbe : Below W3.heap.size W3 w4 := below_of_drew hb4
  have Hp4 := Lib.hid (blk_keep hbe Hp3.out)
  have HL4 := Lib.hid (HL3.out.keep hbe)
  clear c0 c1 c2 c3 c4 c5 c6 c7 c8 c9 c10 c11 c12 cf s0 s1 s7 s9 HM HH r3
  go_wp2_with fail
  refine (rask_alone (S := S) p me term commit _ _ lv _ _ _ _ _ _ _ g w4 Hp4.out HL4.out hg hS hm hm' Hhas.out ht1 ht2 ht3 hroom hno hone).mono ?_
  rintro e w5 ⟨rfl, hled⟩
  have hled0 := Led.before hled (hs03.trans (Sm.of_below' hbe _))
  have hr5 : w5.cell? ⟨R, 0, none⟩ = some (.pointer (some ⟨p, 0, none⟩)) := by
    obtain ⟨q, q2, -, -, -, -, h5⟩ := hled
    exact h5.cell (p := ⟨R, 0, none⟩) hrp sr
  clear hled
  obtain ⟨q, q2, u1, u2, u3⟩ := id hled0
  clear u3
  go_wp2_with fail
  refine (rposted_any p _ _ _ _ _ _ _ _ _ _ _ _ _ w5 u2).mono ?_
  rintro e w6 ⟨rfl, hw6⟩
  go_wp2_with fail
  go_ret
  exact ⟨rfl, Led.after hled0 hplt rfl⟩
end Go.Proofs.YtahagecdebadfaaGreat

namespace Go.Proofs.YtahagecdebadfaaGreat
open Go.RowKit

/-- A leader with nothing heard and nothing sent. -/
def Alone (p q : Nat) (me term c rd n qu : Int) (x2 x7 x9 x11 : Value) (g : Lg) (w : World) : Prop := ∃ lv, p ≠ q ∧
  w.heap[p]? = some (.cells #[.int .i64 me, .int .i64 term, x2, .int .i64 me, lv, .int .i64 c, .iface 95 (.pointer (some ⟨q, 0, none⟩)), x7, .int .i64 qu, x9, .slice none 0 0, x11, .slice none 0 0] 92 (0, 0)) ∧
  w.heap[q]? = some (.cells #[.int .i64 rd, .int .i64 n, .int .i64 n, .int .i64 n, .int .i64 n, .int .i64 n, .int .i64 0, .int .i64 0, .int .i64 0, .int .i64 0, .int .i64 0, .int .i64 0, .int .i64 0, .int .i64 0, .int .i64 0, .int .i64 0] 99 (0, 0)) ∧
  LogAt (fun b => ¬ b = p ∧ ¬ b = q) w lv g.parts
theorem Alone.keepM {p q : Nat} {me term c rd n qu : Int} {x2 x7 x9 x11 : Value} {g : Lg} {w w' : World} (h : Alone p q me term c rd n qu x2 x7 x9 x11 g w) (hb : Below w.heap.size w w') : Alone p q me term c rd n qu x2 x7 x9 x11 g w' := by
  obtain ⟨lv, h1, h2, h3, h4⟩ := h
  exact ⟨lv, h1, blk_keep hb h2, blk_keep hb h3, h4.keep hb⟩
set_option maxHeartbeats 4000000 in
theorem rtick_lead (p q : Nat) (me term c rd n qu : Int) (x2 x7 x9 x11 : Value) (g : Lg) (w : World) (h : Alone p q me term c rd n qu x2 x7 x9 x11 g w) (hg : g.Good)
    (hm : 0 ≤ me) (hm' : me < 5) (hhas : hasB g.mem me.toNat = true) (hno : ∀ i : Nat, i < 5 → (i : Int) ≠ me → hasB g.mem i = false) (hone : pop g.mem < 2)
    (hr1 : 0 ≤ rd) (hr2 : rd < 1000000) (hq1 : 0 ≤ qu) (hq2 : qu < 1000000) :
    Calls Tryz.prog 10 #[.pointer (some ⟨p, 0, none⟩)] w fun e w' => e = .returned (.slice none 0 0) ∧
      Alone p q me term (newCommit g term c me.toNat [0, 0, 0, 0, 0]) (rd + 1) n (qu + 1) x2 x7 x9 x11 g w' ∧ Sm (fun b => ¬ b = p ∧ ¬ b = q) w w' := by
  obtain ⟨lv, hpq, h, hq, hL⟩ := h
  have hA := blk_alloc h (.cells #[.pointer (some ⟨p, 0, none⟩)] 32)
  obtain ⟨⟨a0, a1, a2, a3, a4, a5, a6, a7, a8, a9, a10, a11, a12⟩, af⟩ := cells13 hA
  have af8 := af 8
  have hr := blk_new w (.cells #[.pointer (some ⟨p, 0, none⟩)] 32)
  have HA := Lib.hid hA
  have Hr := Lib.hid hr
  have Hq := Lib.hid hq
  clear hA hr hq
  go_enter Tryz.func10, Tryz.ntmps10
  go_wp2_with fail
  obtain ⟨W1, hW1⟩ : ∃ W1, (w.alloc (.cells #[.pointer (some ⟨p, 0, none⟩)] 32)).setCell ⟨p, 8, none⟩ (.int .i64 (qu + 1)) = W1 := ⟨_, rfl⟩
  have hplt := (Array.getElem?_eq_some_iff.1 h).1
  have hqlt := (Array.getElem?_eq_some_iff.1 Hq.out).1
  have hp1 : W1.heap[p]? = some (.cells #[.int .i64 me, .int .i64 term, x2, .int .i64 me, lv, .int .i64 c, .iface 95 (.pointer (some ⟨q, 0, none⟩)), x7, .int .i64 (qu + 1), x9, .slice none 0 0, x11, .slice none 0 0] 92 (0, 0)) := by rw [← hW1]; exact blk_set HA.out _
  have hs1 : Sm (fun b => ¬ b = p) w W1 := by rw [← hW1]; exact ((Sm.refl _ w).alloc _).setCell (fun h => h rfl) _
  have hs1' : Sm (fun b => ¬ b = p) (w.alloc (.cells #[.pointer (some ⟨p, 0, none⟩)] 32)) W1 := by rw [← hW1]; exact (Sm.refl _ _).setCell (fun h => h rfl) _
  have hrp : ¬ w.heap.size = p := by omega
  have hrq : ¬ w.heap.size = q := by omega
  have r1 := hs1'.cell (p := ⟨w.heap.size, 0, none⟩) hrp (cells1 Hr.out).1
  have hq1' := (hs1.block q (fun e => hpq e.symm) hqlt).trans Hq.out
  have hL1 := hL.keepM (hs1.mono (fun b hb => hb.1))
  rw [hW1]
  clear hW1 a0 a1 a2 a3 a4 a5 a6 a7 a8 a9 a10 a11 a12 af af8 hs1'
  obtain ⟨R, hR⟩ : ∃ R, w.heap.size = R := ⟨_, rfl⟩
  rw [hR] at r1 hrp hrq ⊢
  clear hR
  have Hp1 := Lib.hid hp1
  have Hq1 := Lib.hid hq1'
  have HL1 := Lib.hid hL1
  obtain ⟨⟨c0, c1, c2, c3, c4, c5, c6, c7, c8, c9, c10, c11, c12⟩, cf⟩ := cells13 hp1
  obtain ⟨⟨d0, -⟩, df⟩ := cells16 (blk_alloc hq1' (.cells #[.pointer (some ⟨q, 0, none⟩)] 95))
  have df0 := df 0
  refine (rleads_yes p _ _ _ _ _ _ _ _ _ _ _ _ _ W1 hp1).mono ?_
  rintro e w2 ⟨rfl, hw2'⟩
  clear hp1 hq1' hL1
  subst hw2'
  go_wp2_with fail
  obtain ⟨W3, hW3⟩ : ∃ W3, (w2.alloc (.cells #[.pointer (some ⟨q, 0, none⟩)] 95)).setCell ⟨q, 0, none⟩ (.int .i64 (rd + 1)) = W3 := ⟨_, rfl⟩
  have hqp : ¬ p = q := hpq
  have hb3 : Below w2.heap.size w2 (w2.alloc (.cells #[.pointer (some ⟨q, 0, none⟩)] 95)) := box_below w2 _
  have hs3 : Sm (fun b => ¬ b = q) w2 W3 := by rw [← hW3]; exact ((Sm.refl _ w2).alloc _).setCell (fun h => h rfl) _
  have hp3 := (hs3.block p hqp (Array.getElem?_eq_some_iff.1 Hp1.out).1).trans Hp1.out
  have hq3 : W3.heap[q]? = some (.cells #[.int .i64 (rd + 1), .int .i64 n, .int .i64 n, .int .i64 n, .int .i64 n, .int .i64 n, .int .i64 0, .int .i64 0, .int .i64 0, .int .i64 0, .int .i64 0, .int .i64 0, .int .i64 0, .int .i64 0, .int .i64 0, .int .i64 0] 99 (0, 0)) := by rw [← hW3]; exact blk_set (blk_alloc Hq1.out _) _
  have hL3 := HL1.out.keepM (hs3.mono (fun b hb => hb.2))
  have r3 := hs3.cell (p := ⟨R, 0, none⟩) hrq r1
  obtain ⟨X, hX⟩ : ∃ X, w2.heap.size = X := ⟨_, rfl⟩
  have hplt2 := (Array.getElem?_eq_some_iff.1 Hp1.out).1
  have hqlt2 := (Array.getElem?_eq_some_iff.1 Hq1.out).1
  have hxp : ¬ X = p := by omega
  have hxq : ¬ X = q := by omega
  have x3 : W3.cell? ⟨X, 0, none⟩ = some (.pointer (some ⟨q, 0, none⟩)) := by
    rw [← hW3, ← hX]
    exact ((Sm.refl (fun b => ¬ b = q) _).setCell (p := ⟨q, 0, none⟩) (fun h => h rfl) _).cell (p := ⟨w2.heap.size, 0, none⟩) (hX ▸ hxq) (cells1 (blk_new w2 _)).1
  rw [hW3]
  rw [hX]
  clear hW3 c0 c1 c2 c3 c4 c5 c6 c7 c8 c9 c10 c11 c12 cf d0 df df0 r1 hX hb3
  have Hp3 := Lib.hid hp3
  have Hq3 := Lib.hid hq3
  have HL3 := Lib.hid hL3
  have Hhas := Lib.hid hhas
  have hmem2 := hg.mem
  obtain ⟨⟨c0, c1, c2, c3, c4, c5, c6, c7, c8, c9, c10, c11, c12⟩, cf⟩ := cells13 hp3
  have hone' : decide (pop g.mem < 2) = true := by simpa using hone
  have HA2 := Lib.hid fun V (hV : Below W3.heap.size W3 V) => (show Calls Tryz.prog 42 #[.pointer (some ⟨p, 0, none⟩)] V fun e w' => e = .returned (.bool true) ∧ Below V.heap.size V w' from by
    have := ralone_any p _ _ _ _ _ _ _ _ _ _ _ _ _ g V (blk_keep hV Hp3.out) (HL3.out.keep hV) hg
    rw [hone'] at this
    exact this)
  have HM := Lib.hid fun V (hV : Below W3.heap.size W3 V) => rmembers_any p _ _ _ _ _ _ _ _ _ _ _ _ _ g V (blk_keep hV Hp3.out) (HL3.out.keep hV) hg
  have HH := Lib.hid (show ∀ V, Calls Tryz.prog 44 #[.int .i64 g.mem, .int .i64 me] V fun e w' => e = .returned (.bool true) ∧ V = w' from fun V => by
    have := shas_any g.mem me.toNat V (by omega) (by omega)
    rw [show ((me.toNat : Nat) : Int) = me by omega, hhas] at this
    exact this)
  clear hL3 hp3 hq3 hmem2 hhas hone'
  refine wp_region_held_drew (S := (fun w' => w'.cell? ⟨R, 0, none⟩ = some (.pointer (some ⟨p, 0, none⟩)) ∧ w'.cell? ⟨p, 0, none⟩ = some (.int .i64 me))) (by kernel_rfl) ?_ ?_
  · ((try dsimp only); go_keep)
  intro hHeld
  refine rg_take 0 (v := ?_) rfl (by kernel_rfl) (by kernel_rfl) (by kernel_rfl) (fun _ _ _ h => h) (by rfl) (by assumption) ?_ ?_
  rotate_left 1
  · (intro w hSw; (try dsimp only at hSw); go_simp; with_reducible rfl)
  try simp only [Act.put, List.setIfInBounds_toArray, List.set_cons_zero, List.set_cons_succ]
  refine wpAnyH_ready (rs := [1]) (by kernel_rfl) (by simp) ?_
  refine rg_step 1 rfl (fun K hK => ?_) (AllReadyH.nil)
  go_simp
  first | (go_at_call 42; refine (HA2.out _ (by exact (Below.refl _ _).drew)).mono ?_; rintro _ w4 ⟨rfl, hb4⟩; have s0 := cell_keep hb4 c0; have sr := cell_keep hb4 r3) | (go_at_call 43; refine (HM.out _ (by exact below_of_drew hb4)).mono ?_; rintro _ w5 ⟨rfl, hb5⟩; have t0 := cell_keep hb5 s0; have tr := cell_keep hb5 sr) | (go_at_call 44; refine (HH.out _).mono ?_; rintro _ w6 ⟨rfl, rfl⟩)
  go_wp2_with fail
  refine hK.out _ _ ?_ ?_
  · ((try dsimp only); go_keep)
  clear hHeld hK K
  intro hHeld
  try simp only [Act.put, List.setIfInBounds_toArray, List.set_cons_zero, List.set_cons_succ]
  refine rg_take 2 (v := ?_) rfl (by kernel_rfl) (by kernel_rfl) (by kernel_rfl) (fun _ _ _ h => h) (by rfl) (by assumption) ?_ ?_
  rotate_left 1
  · (intro w hSw; (try dsimp only at hSw); go_simp; with_reducible rfl)
  try simp only [Act.put, List.setIfInBounds_toArray, List.set_cons_zero, List.set_cons_succ]
  refine rg_take 3 (v := ?_) rfl (by kernel_rfl) (by kernel_rfl) (by kernel_rfl) (fun _ _ _ h => h) (by rfl) (by assumption) ?_ ?_
  rotate_left 1
  · (intro w hSw; (try dsimp only at hSw); go_simp; with_reducible rfl)
  try simp only [Act.put, List.setIfInBounds_toArray, List.set_cons_zero, List.set_cons_succ]
  refine rg_take 5 (v := ?_) rfl (by kernel_rfl) (by kernel_rfl) (by kernel_rfl) (fun _ _ _ h => h) (by rfl) (by assumption) ?_ ?_
  rotate_left 1
  · (intro w hSw; (try dsimp only at hSw); go_simp; with_reducible rfl)
  try simp only [Act.put, List.setIfInBounds_toArray, List.set_cons_zero, List.set_cons_succ]
  refine rg_take 6 (v := ?_) rfl (by kernel_rfl) (by kernel_rfl) (by kernel_rfl) (fun _ _ _ h => h) (by rfl) (by assumption) ?_ ?_
  rotate_left 1
  · (intro w hSw; (try dsimp only at hSw); go_simp; with_reducible rfl)
  try simp only [Act.put, List.setIfInBounds_toArray, List.set_cons_zero, List.set_cons_succ]
  refine rg_take 7 (v := ?_) rfl (by kernel_rfl) (by kernel_rfl) (by kernel_rfl) (fun _ _ _ h => h) (by rfl) (by assumption) ?_ ?_
  rotate_left 1
  · (intro w hSw; (try dsimp only at hSw); go_simp; with_reducible rfl)
  try simp only [Act.put, List.setIfInBounds_toArray, List.set_cons_zero, List.set_cons_succ]
  refine rg_take 8 (v := ?_) rfl (by kernel_rfl) (by kernel_rfl) (by kernel_rfl) (fun _ _ _ h => h) (by rfl) (by assumption) ?_ ?_
  rotate_left 1
  · (intro w hSw; (try dsimp only at hSw); go_simp; with_reducible rfl)
  try simp only [Act.put, List.setIfInBounds_toArray, List.set_cons_zero, List.set_cons_succ]
  refine wpAnyH_ready (rs := [4]) (by kernel_rfl) (by simp) ?_
  refine rg_step 4 rfl (fun K hK => ?_) (AllReadyH.nil)
  go_simp
  first | (go_at_call 42; refine (HA2.out _ (by exact (Below.refl _ _).drew)).mono ?_; rintro _ w4 ⟨rfl, hb4⟩; have s0 := cell_keep hb4 c0; have sr := cell_keep hb4 r3) | (go_at_call 43; refine (HM.out _ (by exact below_of_drew hb4)).mono ?_; rintro _ w5 ⟨rfl, hb5⟩; have t0 := cell_keep hb5 s0; have tr := cell_keep hb5 sr) | (go_at_call 44; refine (HH.out _).mono ?_; rintro _ w6 ⟨rfl, rfl⟩)
  go_wp2_with fail
  refine hK.out _ _ ?_ ?_
  · ((try dsimp only); go_keep)
  clear hHeld hK K
  intro hHeld
  try simp only [Act.put, List.setIfInBounds_toArray, List.set_cons_zero, List.set_cons_succ]
  refine wpAnyH_ready (rs := [9]) (by kernel_rfl) (by simp) ?_
  refine rg_step 9 rfl (fun K hK => ?_) (AllReadyH.nil)
  go_simp
  first | (go_at_call 42; refine (HA2.out _ (by exact (Below.refl _ _).drew)).mono ?_; rintro _ w4 ⟨rfl, hb4⟩; have s0 := cell_keep hb4 c0; have sr := cell_keep hb4 r3) | (go_at_call 43; refine (HM.out _ (by exact below_of_drew hb4)).mono ?_; rintro _ w5 ⟨rfl, hb5⟩; have t0 := cell_keep hb5 s0; have tr := cell_keep hb5 sr) | (go_at_call 44; refine (HH.out _).mono ?_; rintro _ w6 ⟨rfl, rfl⟩)
  go_wp2_with fail
  refine hK.out _ _ ?_ ?_
  · ((try dsimp only); go_keep)
  clear hHeld hK K
  intro hHeld
  try simp only [Act.put, List.setIfInBounds_toArray, List.set_cons_zero, List.set_cons_succ]
  refine rg_take 10 (v := ?_) rfl (by kernel_rfl) (by kernel_rfl) (by kernel_rfl) (fun _ _ _ h => h) (by rfl) (by assumption) ?_ ?_
  rotate_left 1
  · (intro w hSw; (try dsimp only at hSw); go_simp; with_reducible rfl)
  try simp only [Act.put, List.setIfInBounds_toArray, List.set_cons_zero, List.set_cons_succ]
  refine wpAnyH_done (by kernel_rfl) ?_ _
  have hbe : Below W3.heap.size W3 w5 := below_then (below_of_drew hb4) hb5
  have Hp5 := Lib.hid (blk_keep hbe Hp3.out)
  have Hq5 := Lib.hid (blk_keep hbe Hq3.out)
  have HL5 := Lib.hid (HL3.out.keep hbe)
  have x5 := cell_keep hbe x3
  clear c0 c1 c2 c3 c4 c5 c6 c7 c8 c9 c10 c11 c12 cf s0 sr t0 HM HH HA2 r3 x3
  go_wp2_with fail
  refine (rcount_stay (S := fun b => ¬ b = p ∧ ¬ b = q) p q me term c 0 0 0 0 0 _ _ _ _ _ _ _ _ _ _ _ _ _ _ _ _ _ _ _ _ _ g w5 Hp5.out Hq5.out HL5.out hg (fun h : ¬ p = p ∧ ¬ p = q => h.1 rfl) hm hm' Hhas.out).mono ?_
  rintro e w6 ⟨rfl, hp6, hs6, -⟩
  have r6 := hs6.cell (p := ⟨R, 0, none⟩) hrp tr
  have x6 := hs6.cell (p := ⟨X, 0, none⟩) hxp x5
  have hq6 := (hs6.block q (fun e => hpq e.symm) (Array.getElem?_eq_some_iff.1 Hq5.out).1).trans Hq5.out
  have hL6 := HL5.out.keepM (hs6.mono (fun b hb => hb.1))
  have Hp6 := Lib.hid hp6
  have Hq6 := Lib.hid hq6
  have HL6 := Lib.hid hL6
  clear hL6 hq6 tr x5
  obtain ⟨⟨c0, c1, c2, c3, c4, -⟩, -⟩ := cells13 hp6
  clear hp6
  have htop := Lib.hid fun V (hV : Below w6.heap.size w6 V) => top_run lv g V (HL6.out.keep hV) hg
  go_wp2_with fail
  refine (htop.out _ (Below.refl _ _)).mono ?_
  rintro e w7 ⟨rfl, hb7⟩
  have r7 := fun o => cell_keep ((box_below w7 o)) (cell_keep hb7 r6)
  have x7' := fun o => cell_keep ((box_below w7 o)) (cell_keep hb7 x6)
  clear htop c0 c1 c2 c3 c4 r6 x6 hqlt2 hplt2 hqlt
  go_wp2_with fail
  obtain ⟨W8, hW8⟩ : ∃ W8, w7.alloc (.cells #[.int .i64 g.top] 2) = W8 := ⟨_, rfl⟩
  have hb8 : Below w6.heap.size w6 W8 := by rw [← hW8]; exact below_alloc hb7 _
  have r8 : W8.cell? ⟨R, 0, none⟩ = some (.pointer (some ⟨p, 0, none⟩)) := by rw [← hW8]; exact r7 _
  rw [hW8]
  clear hW8 r7 x7'
  have hp8 := blk_keep hb8 Hp6.out
  have Hp8 := Lib.hid hp8
  have HL8 := Lib.hid (HL6.out.keep hb8)
  have hmem2 := hg.mem
  have HE := fun f => reach_none p me f g.mem (by omega) _ _ _ _ _ _ _ _ _ _ _ _ W8 Hp8.out hm hm' (fun V hV => rmembers_any p _ _ _ _ _ _ _ _ _ _ _ _ _ g V (blk_keep hV Hp8.out) (HL8.out.keep hV) hg) hno
  clear hmem2 hp8
  refine (HE _).mono ?_
  rintro e w9 ⟨rfl, hb9⟩
  have r9 := cell_keep hb9 r8
  have hp9 := blk_keep hb9 Hp8.out
  have Hp9 := Lib.hid hp9
  clear HE hp9
  go_wp2_with fail
  refine (rposted_any p _ _ _ _ _ _ _ _ _ _ _ _ _ w9 Hp9.out).mono ?_
  rintro e w10 ⟨rfl, hw10⟩
  have hs10 : Sm (fun b => ¬ b = p) w9 w10 := by rw [hw10]; exact (Sm.refl _ w9).setCell (fun h => h rfl) _
  have hp10 : w10.heap[p]? = some (.cells #[.int .i64 me, .int .i64 term, x2, .int .i64 me, lv, .int .i64 (newCommit g term c me.toNat [0, 0, 0, 0, 0]), .iface 95 (.pointer (some ⟨q, 0, none⟩)), x7, .int .i64 (qu + 1), x9, .slice none 0 0, x11, .slice none 0 0] 92 (0, 0)) := by rw [hw10]; exact blk_set Hp9.out _
  have hb69 := below_then hb8 hb9
  have hq9 := blk_keep hb69 Hq6.out
  have hq10 := (hs10.block q (fun e => hpq e.symm) (Array.getElem?_eq_some_iff.1 hq9).1).trans hq9
  have hL10 := (HL6.out.keep hb69).keepM (hs10.mono (fun b hb => hb.1))
  have hall : Sm (fun b => ¬ b = p ∧ ¬ b = q) w w10 :=
    ((((((hs1.mono (fun b hb => hb.1)).trans (hs3.mono (fun b hb => hb.2))).trans (Sm.of_below' hbe _)).trans (hs6.mono (fun b hb h => hb.1 h))).trans (Sm.of_below' hb69 _)).trans (hs10.mono (fun b hb => hb.1)))
  have Hend := Lib.hid (show Alone p q me term (newCommit g term c me.toNat [0, 0, 0, 0, 0]) (rd + 1) n (qu + 1) x2 x7 x9 x11 g w10 from ⟨lv, hpq, hp10, hq10, hL10⟩)
  have Hall := Lib.hid hall
  clear hp10 hq10 hL10 hall hs10 hq9 hw10
  go_wp2_with fail
  go_ret
  exact ⟨rfl, Hend.out, Hall.out⟩
end Go.Proofs.YtahagecdebadfaaGreat

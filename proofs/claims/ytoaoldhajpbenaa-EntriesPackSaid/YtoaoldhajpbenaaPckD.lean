/- Entries as bytes: Unpack. No statement is proved here. -/
import Derived.Test.YtoaoldhajpbenaaPckC
namespace Go.Proofs.Ytoaoldhajpbenaa
open Go.RowKit

/-- What bytes are as an entry, and what is wrong of them. -/
def unpOf (xs : List UInt8) : Ent × Int :=
  if endOf (rdEnt (xs, 0)).2.1 (rdEnt (xs, 0)).2.2 ≠ 0 then (⟨0, 0, []⟩, endOf (rdEnt (xs, 0)).2.1 (rdEnt (xs, 0)).2.2)
  else if rightB (rdEnt (xs, 0)).1 = true then ((rdEnt (xs, 0)).1, 0) else (⟨0, 0, []⟩, 1)

theorem rdEnt_in (st : List UInt8 × Int) : -64 ≤ (rdEnt st).1.kind ∧ (rdEnt st).1.kind < 192 ∧ 0 ≤ (rdEnt st).1.term ∧ (rdEnt st).1.term < 281474976710656 := by
  have n1 := rdNum_lt 1 st
  have n6 := rdNum_lt 6 (rdNum 1 st).2
  have h1 : (rdNum 1 st).1 < 256 := by simpa using n1.2
  have h6 : (rdNum 6 (rdNum 1 st).2).1 < 281474976710656 := by simpa using n6.2
  exact ⟨by show -64 ≤ (rdNum 1 st).1 - 64; omega, by show (rdNum 1 st).1 - 64 < 192; omega, n6.1, h6⟩

set_option maxRecDepth 100000 in
set_option maxHeartbeats 2000000 in
theorem eunpack_any (S : Nat → Prop) (v : Value) (xs : List UInt8) (w : World) (hv : Bytes S w v xs) (h47 : xs.length ≤ 140737488355328) :
    Calls Try.prog 29 #[v] w fun e w' => ∃ u, e = .returned (.tuple #[.agg #[.int .i64 (unpOf xs).1.kind, .int .i64 (unpOf xs).1.term, u], .int .i64 (unpOf xs).2]) ∧ w'.ownsRow w.heap.size 5 1 u (unpOf xs).1.cmd.length (byteCells (unpOf xs).1.cmd) ∧ Below w.heap.size w w' := by
  have hb0 := box_below w (.cells #[.int .i64 0, .int .i64 0, .slice none 0 0] 33)
  have hN := newReader_any S v xs _ (hv.keep hb0) h47
  have HN := Lib.hid hN
  have HR0 := Lib.hid (blk_new w (.cells #[.int .i64 0, .int .i64 0, .slice none 0 0] 33))
  have HB0 := Lib.hid hb0
  have h47' := Lib.hid h47
  obtain ⟨A, c, rfl⟩ := hv.slice
  have hin := rdEnt_in (xs, 0)
  obtain ⟨i1, i2, i3, i4⟩ := hin
  have hz0 : (w.alloc (.cells #[.int .i64 0, .int .i64 0, .slice none 0 0] 33)).heap.size = w.heap.size + 1 := by simp
  clear hv hN hb0 h47
  go_enter Try.func29, Try.ntmps29
  go_wp2_with fail
  refine HN.out.mono ?_
  rintro _ w1 ⟨g, rfl, hgW, hrd, hb1⟩
  rw [hz0] at hgW
  have HR1 := Lib.hid (blk_keep hb1 HR0.out)
  have hgl := hrd.lt
  have hC := eread_any (fun b => w.heap.size + 1 ≤ b ∧ b ≠ g) g xs 0 w1 (by simpa using hrd)
  obtain ⟨r, hr⟩ : ∃ r, r = rdEnt (xs, 0) := ⟨_, rfl⟩
  rw [← hr] at hC i1 i2 i3 i4
  have Hr := Lib.hid hr
  obtain ⟨⟨k, t, p⟩, ys, er⟩ := r
  simp only at hC i1 i2 i3 i4
  have HC := Lib.hid hC
  have HB1 := Lib.hid (HB0.out.trans (hb1.mono (by simp)))
  clear hC hr hrd hb1 hz0
  go_wp2_with fail
  refine HC.out.mono ?_
  rintro _ w2 ⟨u, rfl, hown, hrd2, hg2⟩
  obtain ⟨A2, c2, rfl⟩ := (RowAt.of_own hown).slice
  have hR2 := grown_blk hg2 (by simp; omega) HR1.out
  have hzz := hg2.size
  have hE := blk_new w2 (.cells #[.int .i64 k, .int .i64 t, .slice A2 p.length c2] 33)
  have hend := rend_any _ g ys er (w2.alloc (.cells #[.int .i64 k, .int .i64 t, .slice A2 p.length c2] 33)) (hrd2.keep (box_below w2 _))
  have Hend := Lib.hid hend
  have hBg : Below w.heap.size w w2 := (HB1.out.grown hg2 HB1.out.size (by intro k hk; injection hk with hk; omega))
  have HB2 := Lib.hid (below_alloc hBg (.cells #[.int .i64 k, .int .i64 t, .slice A2 p.length c2] 33))
  have Hown := Lib.hid (own_keep hown (box_below w2 (.cells #[.int .i64 k, .int .i64 t, .slice A2 p.length c2] 33)))
  have HR2 := Lib.hid (blk_alloc hR2 (.cells #[.int .i64 k, .int .i64 t, .slice A2 p.length c2] 33))
  have HE := Lib.hid hE
  have hw1 : w.heap.size < w1.heap.size := (Array.getElem?_eq_some_iff.1 HR1.out).1
  clear hown hrd2 hg2 hR2 hE hend hBg
  go_wp2_with fail
  refine Hend.out.mono ?_
  rintro _ w3 ⟨rfl, hb3⟩
  have hR3 := blk_keep hb3 HR2.out
  have hE3 := blk_keep hb3 HE.out
  obtain ⟨q0, q1, q2, f0, f1, f2⟩ := cells3 hR3
  obtain ⟨e0, e1, e2, j0, j1, j2⟩ := cells3 hE3
  have Hown3 := Lib.hid (own_keep Hown.out hb3)
  have HB3 := Lib.hid (below_then HB2.out hb3)
  have hun : unpOf xs = if endOf ys er ≠ 0 then (⟨0, 0, []⟩, endOf ys er) else if rightB ⟨k, t, p⟩ = true then (⟨k, t, p⟩, 0) else (⟨0, 0, []⟩, 1) := by
    unfold unpOf; rw [← Hr.out]
  clear hR3 hE3 hb3
  by_cases he : endOf ys er ≠ 0
  · rw [if_pos he] at hun
    have he2 : (endOf ys er != 0) = true := by simpa using he
    have Hun := Lib.hid hun
    clear he hun
    generalize endOf ys er = f at *
    go_wp2_with fail
    refine bodyPost_ret (v := .tuple #[.agg #[.int .i64 0, .int .i64 0, .slice none 0 0], .int .i64 f]) (by simp [results, Try.results29, go_sem, q0, q1, q2]) rfl ⟨.slice none 0 0, by rw [Hun.out], by rw [Hun.out]; exact World.ownsRow_nil _ _ _ _, ?_⟩
    exact ((HB3.out.setCell (by simp) _).setCell (by simp) _).setCell (by simp) _
  · have he0 : endOf ys er = 0 := by omega
    have he2 : (endOf ys er != 0) = false := by simp [he0]
    rw [if_neg he] at hun
    clear he he0
    generalize endOf ys er = f at *
    have hrt0 := right_any k t _ p w3 (RowAt.of_own Hown3.out)
    by_cases hrt : rightB ⟨k, t, p⟩ = true
    · rw [if_pos hrt] at hun
      rw [hrt] at hrt0
      have HRt := Lib.hid hrt0
      clear hrt0
      have Hun := Lib.hid hun
      clear hun hrt
      go_wp2_with (go_at_call 45; refine HRt.out.mono ?_; rintro _ w4 ⟨rfl, hb4⟩; obtain ⟨hc4, hf4⟩ := bcell hb4; have z1 := block_lt q0; have z2 := block_lt e0)
      refine bodyPost_ret (v := .tuple #[.agg #[.int .i64 k, .int .i64 t, .slice A2 p.length c2], .int .i64 0]) (by simp [results, Try.results29, go_sem, q0, q1, q2, hc4, hf4, z1]) rfl ⟨.slice A2 p.length c2, by rw [Hun.out], by rw [Hun.out]; exact own_lower (own_far (own_far (own_far (own_keep Hown3.out hb4) hw1 _) hw1 _) hw1 _) (by omega), ?_⟩
      exact (((below_then HB3.out hb4).setCell (by simp) _).setCell (by simp) _).setCell (by simp) _
    · rw [if_neg hrt] at hun
      have hrf : rightB ⟨k, t, p⟩ = false := by simpa using hrt
      rw [hrf] at hrt0
      have HRt := Lib.hid hrt0
      clear hrt0
      have Hun := Lib.hid hun
      clear hun hrt hrf
      go_wp2_with (go_at_call 45; refine HRt.out.mono ?_; rintro _ w4 ⟨rfl, hb4⟩; obtain ⟨hc4, hf4⟩ := bcell hb4; have z1 := block_lt q0; have z2 := block_lt e0)
      refine bodyPost_ret (v := .tuple #[.agg #[.int .i64 0, .int .i64 0, .slice none 0 0], .int .i64 1]) (by simp [results, Try.results29, go_sem, q0, q1, q2, hc4, hf4, z1]) rfl ⟨.slice none 0 0, by rw [Hun.out], by rw [Hun.out]; exact World.ownsRow_nil _ _ _ _, ?_⟩
      exact (((below_then HB3.out hb4).setCell (by simp) _).setCell (by simp) _).setCell (by simp) _

set_option maxRecDepth 100000 in
set_option maxHeartbeats 2000000 in
theorem qunpack_any (S : Nat → Prop) (v : Value) (xs : List UInt8) (w : World) (hv : Bytes S w v xs) (h47 : xs.length ≤ 140737488355328) :
    Calls Try.prog 30 #[v] w fun e w' => ∃ u, e = .returned (.tuple #[.agg #[.int .i64 (unpOf xs).1.kind, .int .i64 (unpOf xs).1.term, u], .int .i64 (unpOf xs).2]) ∧ w'.ownsRow w.heap.size 5 1 u (unpOf xs).1.cmd.length (byteCells (unpOf xs).1.cmd) ∧ Below w.heap.size w w' := by
  have hb0 := box_below w (.cells #[.int .i64 0, .int .i64 0, .slice none 0 0] 33)
  have hN := rof_any S v xs _ (hv.keep hb0) h47
  have HN := Lib.hid hN
  have HR0 := Lib.hid (blk_new w (.cells #[.int .i64 0, .int .i64 0, .slice none 0 0] 33))
  have HB0 := Lib.hid hb0
  have h47' := Lib.hid h47
  obtain ⟨A, c, rfl⟩ := hv.slice
  have hin := rdEnt_in (xs, 0)
  obtain ⟨i1, i2, i3, i4⟩ := hin
  have hz0 : (w.alloc (.cells #[.int .i64 0, .int .i64 0, .slice none 0 0] 33)).heap.size = w.heap.size + 1 := by simp
  clear hv hN hb0 h47
  go_enter Try.func30, Try.ntmps30
  go_wp2_with fail
  refine HN.out.mono ?_
  rintro _ w1 ⟨g, rfl, hgW, hrd, hb1⟩
  rw [hz0] at hgW
  have HR1 := Lib.hid (blk_keep hb1 HR0.out)
  have hgl := hrd.lt
  have hC := qget_any (fun b => w.heap.size + 1 ≤ b ∧ b ≠ g) g xs 0 w1 (by simpa using hrd) (fun b hb => ⟨by omega, by omega⟩) h47'.out
  obtain ⟨r, hr⟩ : ∃ r, r = rdEnt (xs, 0) := ⟨_, rfl⟩
  rw [← hr] at hC i1 i2 i3 i4
  have Hr := Lib.hid hr
  obtain ⟨⟨k, t, p⟩, ys, er⟩ := r
  simp only at hC i1 i2 i3 i4
  have HC := Lib.hid hC
  have HB1 := Lib.hid (HB0.out.trans (hb1.mono (by simp)))
  clear hC hr hrd hb1 hz0
  go_wp2_with fail
  refine HC.out.mono ?_
  rintro _ w2 ⟨u, rfl, hown, hrd2, hg2⟩
  obtain ⟨A2, c2, rfl⟩ := (RowAt.of_own hown).slice
  have hR2 := grown_blk hg2 (by simp; omega) HR1.out
  have hzz := hg2.size
  have hE := blk_new w2 (.cells #[.int .i64 k, .int .i64 t, .slice A2 p.length c2] 33)
  have hend := rrend_any _ g ys er (w2.alloc (.cells #[.int .i64 k, .int .i64 t, .slice A2 p.length c2] 33)) (hrd2.keep (box_below w2 _))
  have Hend := Lib.hid hend
  have hBg : Below w.heap.size w w2 := (HB1.out.grown hg2 HB1.out.size (by intro k hk; injection hk with hk; omega))
  have HB2 := Lib.hid (below_alloc hBg (.cells #[.int .i64 k, .int .i64 t, .slice A2 p.length c2] 33))
  have Hown := Lib.hid (own_keep hown (box_below w2 (.cells #[.int .i64 k, .int .i64 t, .slice A2 p.length c2] 33)))
  have HR2 := Lib.hid (blk_alloc hR2 (.cells #[.int .i64 k, .int .i64 t, .slice A2 p.length c2] 33))
  have HE := Lib.hid hE
  have hw1 : w.heap.size < w1.heap.size := (Array.getElem?_eq_some_iff.1 HR1.out).1
  clear hown hrd2 hg2 hR2 hE hend hBg
  go_wp2_with fail
  refine Hend.out.mono ?_
  rintro _ w3 ⟨rfl, hb3⟩
  have hR3 := blk_keep hb3 HR2.out
  have hE3 := blk_keep hb3 HE.out
  obtain ⟨q0, q1, q2, f0, f1, f2⟩ := cells3 hR3
  obtain ⟨e0, e1, e2, j0, j1, j2⟩ := cells3 hE3
  have Hown3 := Lib.hid (own_keep Hown.out hb3)
  have HB3 := Lib.hid (below_then HB2.out hb3)
  have hun : unpOf xs = if endOf ys er ≠ 0 then (⟨0, 0, []⟩, endOf ys er) else if rightB ⟨k, t, p⟩ = true then (⟨k, t, p⟩, 0) else (⟨0, 0, []⟩, 1) := by
    unfold unpOf; rw [← Hr.out]
  clear hR3 hE3 hb3
  by_cases he : endOf ys er ≠ 0
  · rw [if_pos he] at hun
    have he2 : (endOf ys er != 0) = true := by simpa using he
    have Hun := Lib.hid hun
    clear he hun
    generalize endOf ys er = f at *
    go_wp2_with fail
    refine bodyPost_ret (v := .tuple #[.agg #[.int .i64 0, .int .i64 0, .slice none 0 0], .int .i64 f]) (by simp [results, Try.results30, go_sem, q0, q1, q2]) rfl ⟨.slice none 0 0, by rw [Hun.out], by rw [Hun.out]; exact World.ownsRow_nil _ _ _ _, ?_⟩
    exact ((HB3.out.setCell (by simp) _).setCell (by simp) _).setCell (by simp) _
  · have he0 : endOf ys er = 0 := by omega
    have he2 : (endOf ys er != 0) = false := by simp [he0]
    rw [if_neg he] at hun
    clear he he0
    generalize endOf ys er = f at *
    skip
    by_cases hrt : rightB ⟨k, t, p⟩ = true
    · rw [if_pos hrt] at hun
      have hrt2 : rightB ⟨k, t, p⟩ = true := hrt
      have Hun := Lib.hid hun
      clear hun hrt
      go_wp2_with fail
      refine bodyPost_ret (v := .tuple #[.agg #[.int .i64 k, .int .i64 t, .slice A2 p.length c2], .int .i64 0]) (by simp [results, Try.results30, go_sem, q0, q1, q2]) rfl ⟨.slice A2 p.length c2, by rw [Hun.out], by rw [Hun.out]; exact own_lower (own_far (own_far (own_far Hown3.out hw1 _) hw1 _) hw1 _) (by omega), ?_⟩
      exact ((HB3.out.setCell (by simp) _).setCell (by simp) _).setCell (by simp) _
    · rw [if_neg hrt] at hun
      have hrf : rightB ⟨k, t, p⟩ = false := by simpa using hrt
      have hrf2 : rightB ⟨k, t, p⟩ = false := hrf
      have Hun := Lib.hid hun
      clear hun hrt hrf
      go_wp2_with fail
      refine bodyPost_ret (v := .tuple #[.agg #[.int .i64 0, .int .i64 0, .slice none 0 0], .int .i64 1]) (by simp [results, Try.results30, go_sem, q0, q1, q2]) rfl ⟨.slice none 0 0, by rw [Hun.out], by rw [Hun.out]; exact World.ownsRow_nil _ _ _ _, ?_⟩
      exact ((HB3.out.setCell (by simp) _).setCell (by simp) _).setCell (by simp) _
end Go.Proofs.Ytoaoldhajpbenaa

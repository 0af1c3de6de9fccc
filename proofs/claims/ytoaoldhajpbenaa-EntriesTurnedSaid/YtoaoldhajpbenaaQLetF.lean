/- Texts that belong together, in one file: LetE, LetF. No statement is proved here. -/
import Derived.Test.YtoaoldhajpbenaaQLetD
import Derived.Deep.DeepCutAuto
import Derived.Deep.CutBlock
namespace Go.Proofs.Ytoaoldhajpbenaa
open Go.RowKit

set_option maxRecDepth 100000 in
set_option maxHeartbeats 8000000 in
theorem packMsg_true {S0 : Nat → Prop} (m : Msg) (vl vd : Value) (w : World) (hm : MsgAt S0 w m vl vd) (hf : Fine m) (hL : longB m = false) (hO : msgOK m = true) (hy : m.yes = true) :
    Calls Try.prog 33 #[.agg (msgCells m vl vd).toArray] w fun e w' => ∃ v, e = .returned (.tuple #[v, .int .i64 0]) ∧ Bytes (w.heap.size ≤ ·) w' v (encM m ++ be 4 (crcSum (encM m))) ∧ Below w.heap.size w w' := by
  have hb0 := box_below w (.cells (msgCells m vl vd).toArray 65)
  have hE := blk_new w (.cells (msgCells m vl vd).toArray 65)
  have hlong := long_any m vl vd _ (hm.keep hb0) hf
  rw [hL] at hlong
  have hfit := fun W (hb : Below w.heap.size w W) => mfits_any m vl vd W (hm.keep hb)
  rw [hO] at hfit
  obtain ⟨f3, f4, f5, f6, f7, f0, f1, f2, fl⟩ := msgOK_facts hO
  obtain ⟨g1, g2, g3⟩ := longB_facts hL
  have hlen := encM_length m
  have Hm := Lib.hid (And.intro hm.1 hm.2.1)
  obtain ⟨A, cA, rfl⟩ := hm.1.slice
  obtain ⟨B, cB, rfl⟩ := hm.2.1.slice
  obtain ⟨M, hM⟩ : ∃ M, M = encM m ++ be 4 (crcSum (encM m)) := ⟨_, rfl⟩
  rw [← hM]
  have HM := Lib.hid hM
  obtain ⟨k0, k1, k2, k3, k4, k5, k6, k7, yes, l, data⟩ := m
  simp only at hy f3 f4 f5 f6 f7 f0 f1 f2 fl g1 g2
  subst hy
  simp only [msgCells] at hb0 hlong hfit hE ⊢
  have HB := Lib.hid hb0
  have HL := Lib.hid hlong
  have HF := Lib.hid hfit
  have HE := Lib.hid hE
  have HG := Lib.hid (And.intro fl (And.intro g1 (And.intro g2 (And.intro g3 hlen))))
  clear hm hf hL hO hb0 hlong hfit hE hM fl g1 g2 g3 hlen
  go_enter Try.func33, Try.ntmps33
  go_wp2_with fail
  refine HL.out.mono ?_
  rintro _ w1 ⟨rfl, hb⟩
  obtain ⟨⟨d0, d1, d2, d3, d4, d5, d6, d7, d8, d9, d10⟩, -⟩ := cells11 (blk_keep hb HE.out)
  have HF1 := Lib.hid (HF.out w1 (below_then HB.out hb))
  have HB1 := Lib.hid (below_then HB.out hb)
  have HE1 := Lib.hid (blk_keep hb HE.out)
  clear hb
  go_wp2_with fail
  refine HF1.out.mono ?_
  rintro _ w2 ⟨rfl, hb⟩
  obtain ⟨⟨d0, d1, d2, d3, d4, d5, d6, d7, d8, d9, d10⟩, -⟩ := cells11 (blk_keep hb HE1.out)
  have HB2 := Lib.hid (below_then HB1.out hb)
  have HE2 := Lib.hid (blk_keep hb HE1.out)
  clear hb
  go_wp2_with fail
  refine (newWriter_any w2).mono ?_
  rintro _ _ ⟨rfl, rfl⟩
  have bw := box_below w2 (.cells #[.slice none 0 0, .int .i64 0] 142)
  have a0 := fun o => cell_keep (box_below (w2.alloc (.cells #[.slice none 0 0, .int .i64 0] 142)) o) (cell_keep bw d0)
  have a1 := fun o => cell_keep (box_below (w2.alloc (.cells #[.slice none 0 0, .int .i64 0] 142)) o) (cell_keep bw d1)
  have a2 := fun o => cell_keep (box_below (w2.alloc (.cells #[.slice none 0 0, .int .i64 0] 142)) o) (cell_keep bw d2)
  clear d0 d1 d2 d3 d4 d5 d6 d7 d8 d9 d10
  go_wp2_with fail
  clear a0 a1 a2
  have bl := box_below (w2.alloc (.cells #[.slice none 0 0, .int .i64 0] 142)) (.cells #[.pointer (some ⟨w2.heap.size, 0, none⟩)] 104)
  have bi := box_below ((w2.alloc (.cells #[.slice none 0 0, .int .i64 0] 142)).alloc (.cells #[.pointer (some ⟨w2.heap.size, 0, none⟩)] 104)) (.cells #[.int .i64 202, .int .i64 k0, .int .i64 k1, .int .i64 k2, .int .i64 1] 3)
  have h5 := (wrS_new 142 w2).grow (below_then bl bi)
  have eL := blk_keep bi (blk_new (w2.alloc (.cells #[.slice none 0 0, .int .i64 0] 142)) (.cells #[.pointer (some ⟨w2.heap.size, 0, none⟩)] 104))
  have eI := blk_new ((w2.alloc (.cells #[.slice none 0 0, .int .i64 0] 142)).alloc (.cells #[.pointer (some ⟨w2.heap.size, 0, none⟩)] 104)) (.cells #[.int .i64 202, .int .i64 k0, .int .i64 k1, .int .i64 k2, .int .i64 1] 3)
  have b5 := below_then HB2.out (below_then bw (below_then bl bi))
  have eM := blk_keep (below_then bw (below_then bl bi)) HE2.out
  have z5 : (((w2.alloc (.cells #[.slice none 0 0, .int .i64 0] 142)).alloc (.cells #[.pointer (some ⟨w2.heap.size, 0, none⟩)] 104)).alloc (.cells #[.int .i64 202, .int .i64 k0, .int .i64 k1, .int .i64 k2, .int .i64 1] 3)).heap.size = w2.heap.size + 3 := by simp
  have z3 : (w2.alloc (.cells #[.slice none 0 0, .int .i64 0] 142)).heap.size = w2.heap.size + 1 := by simp
  have z4 : ((w2.alloc (.cells #[.slice none 0 0, .int .i64 0] 142)).alloc (.cells #[.pointer (some ⟨w2.heap.size, 0, none⟩)] 104)).heap.size = w2.heap.size + 1 + 1 := by simp
  rw [z3] at eL
  rw [z4] at eI
  rw [z3, z5] at h5
  obtain ⟨W5, hW5⟩ : ∃ W, ((w2.alloc (.cells #[.slice none 0 0, .int .i64 0] 142)).alloc (.cells #[.pointer (some ⟨w2.heap.size, 0, none⟩)] 104)).alloc (.cells #[.int .i64 202, .int .i64 k0, .int .i64 k1, .int .i64 k2, .int .i64 1] 3) = W := ⟨_, rfl⟩
  rw [hW5] at h5 eL eI b5 eM z5 ⊢
  obtain ⟨S, hS⟩ : ∃ S : Nat → Prop, S = fun b => b < w2.heap.size ∨ w2.heap.size + 1 ≤ b ∧ b < w2.heap.size + 3 := ⟨_, rfl⟩
  rw [← hS] at h5
  have sM : S w.heap.size := by rw [hS]; left; exact (Array.getElem?_eq_some_iff.1 HE2.out).1
  have sL : S (w2.heap.size + 1) := by rw [hS]; right; omega
  have sI : S (w2.heap.size + 1 + 1) := by rw [hS]; right; omega
  have slow : ∀ b, b < w.heap.size → S b := fun b hb => by rw [hS]; left; have := HB2.out.size; omega
  have hWr : Wr 142 W5 S w2.heap.size w2.heap.size W5 [] := ⟨h5, Same.refl _ _, Below.refl _ _, fun b hb => by rw [hS] at hb; rw [z5]; omega, by omega⟩
  have HW := Lib.hid hWr
  have HS := Lib.hid (And.intro sM (And.intro sL (And.intro sI slow)))
  have HB5 := Lib.hid b5
  have HZ := Lib.hid z5
  obtain ⟨⟨m0, m1, m2, m3, m4, m5, m6, m7, m8, m9, m10⟩, -⟩ := cells11 eM
  obtain ⟨l0, -⟩ := cells1 eL
  obtain ⟨i0, i1, i2, i3, i4, -⟩ := cells5 eI
  have HK := Lib.hid (And.intro m3 (And.intro m4 (And.intro m5 (And.intro m6 (And.intro m7 (And.intro m9 (And.intro m10 (And.intro l0 (And.intro i0 (And.intro i1 (And.intro i2 (And.intro i3 i4))))))))))))
  clear hW5 h5 eL eI b5 eM z5 z3 z4 hS sM sL sI slow hWr bw bl bi m0 m1 m2 m3 m4 m5 m6 m7 m8 m9 m10 i1 i2 i3 i4
  refine wp_loop_rounds 6 ?_
  rw [rounds_succ]
  go_wp2_with fail
  refine (wr_num1 HW.out (202) (by omega) (by omega) (by simp [])).mono ?_
  rintro _ w10 ⟨⟨u0, rfl⟩, hw⟩
  have HW := Lib.hid hw
  have l0 := hw.cell HS.out.2.1 HK.out.2.2.2.2.2.2.2.1
  have i1 := hw.cell HS.out.2.2.1 HK.out.2.2.2.2.2.2.2.2.2.1
  clear hw
  go_wp2_with fail
  rw [rounds_succ]
  go_wp2_with fail
  refine (wr_num1 HW.out (k0) (by omega) (by omega) (by simp [be_length])).mono ?_
  rintro _ w11 ⟨⟨u1, rfl⟩, hw⟩
  have HW := Lib.hid hw
  have l0 := hw.cell HS.out.2.1 HK.out.2.2.2.2.2.2.2.1
  have i2 := hw.cell HS.out.2.2.1 HK.out.2.2.2.2.2.2.2.2.2.2.1
  clear hw
  go_wp2_with fail
  rw [rounds_succ]
  go_wp2_with fail
  refine (wr_num1 HW.out (k1) (by omega) (by omega) (by simp [be_length])).mono ?_
  rintro _ w12 ⟨⟨u2, rfl⟩, hw⟩
  have HW := Lib.hid hw
  have l0 := hw.cell HS.out.2.1 HK.out.2.2.2.2.2.2.2.1
  have i3 := hw.cell HS.out.2.2.1 HK.out.2.2.2.2.2.2.2.2.2.2.2.1
  clear hw
  go_wp2_with fail
  rw [rounds_succ]
  go_wp2_with fail
  refine (wr_num1 HW.out (k2) (by omega) (by omega) (by simp [be_length])).mono ?_
  rintro _ w13 ⟨⟨u3, rfl⟩, hw⟩
  have HW := Lib.hid hw
  have l0 := hw.cell HS.out.2.1 HK.out.2.2.2.2.2.2.2.1
  have i4 := hw.cell HS.out.2.2.1 HK.out.2.2.2.2.2.2.2.2.2.2.2.2
  clear hw
  go_wp2_with fail
  rw [rounds_succ]
  go_wp2_with fail
  refine (wr_num1 HW.out (1) (by omega) (by omega) (by simp [be_length])).mono ?_
  rintro _ w14 ⟨⟨u4, rfl⟩, hw⟩
  have HW := Lib.hid hw
  have l0 := hw.cell HS.out.2.1 HK.out.2.2.2.2.2.2.2.1
  clear hw
  go_wp2_with fail
  rw [rounds_succ]
  go_wp2_with fail
  refine (numbers_any w.heap.size w14).mono ?_
  rintro _ w15 ⟨rfl, hb⟩
  have HW := Lib.hid (HW.out.below hb)
  have l0 := HW.out.cell HS.out.2.1 HK.out.2.2.2.2.2.2.2.1
  have m3 := HW.out.cell HS.out.1 HK.out.1
  clear hb
  go_wp2_with fail
  refine wp_loop_rounds 6 ?_
  rw [rounds_succ]
  go_wp2_with fail
  go_still_tail 5, (by kernel_rfl)
  change wpList _ _ _ _ _ w15.drew
  have HW := Lib.hid (HW.out.below (below_drew1 (Below.refl _ w15)))
  go_wp2_with fail
  refine (wr_num6 HW.out k3 (by omega) (by omega) (by simp [be_length])).mono ?_
  rintro _ w16 ⟨⟨v3, rfl⟩, hw⟩
  have HW := Lib.hid hw
  have l0 := hw.cell HS.out.2.1 HK.out.2.2.2.2.2.2.2.1
  have m4 := hw.cell HS.out.1 HK.out.2.1
  clear hw
  go_wp2_with fail
  rw [rounds_succ]
  go_wp2_with fail
  go_still_tail 5, (by kernel_rfl)
  change wpList _ _ _ _ _ w16.drew
  have HW := Lib.hid (HW.out.below (below_drew1 (Below.refl _ w16)))
  go_wp2_with fail
  refine (wr_num6 HW.out k4 (by omega) (by omega) (by simp [be_length])).mono ?_
  rintro _ w17 ⟨⟨v4, rfl⟩, hw⟩
  have HW := Lib.hid hw
  have l0 := hw.cell HS.out.2.1 HK.out.2.2.2.2.2.2.2.1
  have m5 := hw.cell HS.out.1 HK.out.2.2.1
  clear hw
  go_wp2_with fail
  rw [rounds_succ]
  go_wp2_with fail
  go_still_tail 5, (by kernel_rfl)
  change wpList _ _ _ _ _ w17.drew
  have HW := Lib.hid (HW.out.below (below_drew1 (Below.refl _ w17)))
  go_wp2_with fail
  refine (wr_num6 HW.out k5 (by omega) (by omega) (by simp [be_length])).mono ?_
  rintro _ w18 ⟨⟨v5, rfl⟩, hw⟩
  have HW := Lib.hid hw
  have l0 := hw.cell HS.out.2.1 HK.out.2.2.2.2.2.2.2.1
  have m6 := hw.cell HS.out.1 HK.out.2.2.2.1
  clear hw
  go_wp2_with fail
  rw [rounds_succ]
  go_wp2_with fail
  go_still_tail 5, (by kernel_rfl)
  change wpList _ _ _ _ _ w18.drew
  have HW := Lib.hid (HW.out.below (below_drew1 (Below.refl _ w18)))
  go_wp2_with fail
  refine (wr_num6 HW.out k6 (by omega) (by omega) (by simp [be_length])).mono ?_
  rintro _ w19 ⟨⟨v6, rfl⟩, hw⟩
  have HW := Lib.hid hw
  have l0 := hw.cell HS.out.2.1 HK.out.2.2.2.2.2.2.2.1
  have m7 := hw.cell HS.out.1 HK.out.2.2.2.2.1
  clear hw
  go_wp2_with fail
  rw [rounds_succ]
  go_wp2_with fail
  go_still_tail 5, (by kernel_rfl)
  change wpList _ _ _ _ _ w19.drew
  have HW := Lib.hid (HW.out.below (below_drew1 (Below.refl _ w19)))
  go_wp2_with fail
  refine (wr_num6 HW.out k7 (by omega) (by omega) (by simp [be_length])).mono ?_
  rintro _ w20 ⟨⟨v7, rfl⟩, hw⟩
  have HW := Lib.hid hw
  have l0 := hw.cell HS.out.2.1 HK.out.2.2.2.2.2.2.2.1
  have m9 := hw.cell HS.out.1 HK.out.2.2.2.2.2.1
  clear hw
  go_wp2_with fail
  rw [rounds_succ]
  go_wp2_with fail
  refine (wr_num2 HW.out l.length (by omega) (by have := HG.out; omega) (by simp [be_length])).mono ?_
  rintro _ w21 ⟨⟨v21, rfl⟩, hw⟩
  have hhead : Wr 142 W5 S w2.heap.size w2.heap.size w21 (encHead ⟨k0, k1, k2, k3, k4, k5, k6, k7, true, l, data⟩) := by simpa [encHead, List.append_assoc] using hw
  have HW := Lib.hid hhead
  have m9 := hhead.cell HS.out.1 HK.out.2.2.2.2.2.1
  have l0 := hhead.cell HS.out.2.1 HK.out.2.2.2.2.2.2.2.1
  clear hw hhead
  go_wp2_with fail
  have hEm : Ents S W5 (.slice A l.length cA) l := (Hm.out.1.mono (T := S) fun b hlt _ => HS.out.2.2.2 b hlt).keep HB5.out
  have HEm := Lib.hid hEm
  have hlt96 := HG.out.2.1
  clear hEm
  go_loopw [64] (fun s64 wr => ∃ k : Nat, k ≤ l.length ∧ s64 = .int .i64 k ∧ Hid (Wr 142 W5 S w2.heap.size w2.heap.size wr (encHead ⟨k0, k1, k2, k3, k4, k5, k6, k7, true, l, data⟩ ++ encEs (l.take k)))) (fun s64 _ => l.length - (intOf s64).toNat)
  case atStart => exact ⟨0, Nat.zero_le _, rfl, Lib.hid (by simpa [encEs] using HW.out)⟩
  case round =>
    clear l0 m9 HW
    obtain ⟨k, hk, rfl, HW⟩ := hrel
    have l0 := HW.out.cell HS.out.2.1 HK.out.2.2.2.2.2.2.2.1
    by_cases hlt : k < l.length
    · obtain ⟨cs, hr, he⟩ := HEm.out.keepS HW.out.same
      obtain ⟨ab, ao, ac, hv, hn, hc, -, hab, hcell⟩ := hr.form (by omega)
      injection hv with hv1 _ hv3
      subst hv1 hv3
      obtain ⟨ev, x0, x1, x2, -, -, hy⟩ := he.at k hlt
      have x0 := hcell _ _ x0
      have x1 := hcell _ _ x1
      have x2 := hcell _ _ x2
      rw [← Nat.add_assoc] at x1 x2
      obtain ⟨AE, cE, rfl⟩ := hy.slice
      have hlt2 : (k : Int) < (l.length : Int) := by omega
      have hsn : l.take (k + 1) = l.take k ++ [l[k]] := by rw [List.take_succ_eq_append_getElem hlt]
      have henc := encEs_snoc (l.take k) l[k]
      rw [← hsn] at henc
      have hsz : (encHead ⟨k0, k1, k2, k3, k4, k5, k6, k7, true, l, data⟩ ++ encEs (l.take k)).length ≤ 90000000 := by
        rw [List.length_append, encHead_length, encEs_length]
        have h1 := entsSize_take_le l k
        have h2 := HG.out.2.2.2.1
        unfold msgSize at h2
        simp only at h2
        omega
      have hbx := box_below wr (.cells #[.int .i64 l[k].kind, .int .i64 l[k].term, .slice AE l[k].cmd.length cE] 33)
      have l1 := cell_keep hbx l0
      have hcl := wr_entry (HW.out.below hbx) l[k] (.slice AE l[k].cmd.length cE) (hy.keep hbx) (HG.out.1 _ (List.getElem_mem hlt)) hsz
      have HC := Lib.hid hcl
      have Henc := Lib.hid henc
      unfold maxLen at hc
      clear hsn henc hsz hbx hcl hy he hr hcell
      go_wp2_with fail
      refine HC.out.mono ?_
      rintro _ w22 ⟨⟨v22, rfl⟩, hw⟩
      have hw2 : Hid (Wr 142 W5 S w2.heap.size w2.heap.size w22 (encHead ⟨k0, k1, k2, k3, k4, k5, k6, k7, true, l, data⟩ ++ encEs (l.take (k + 1)))) := Lib.hid (by rw [Henc.out, ← List.append_assoc]; exact hw)
      clear hw
      go_wp2_with fail
      go_roundw
      case rel => exact ⟨k + 1, hlt, by go_num, hw2⟩
      case measure => simp [intOf]; omega
    · obtain rfl : k = l.length := by omega
      have hW := HW.out
      rw [List.take_length] at hW
      have HW := Lib.hid hW
      have m10 := hW.cell HS.out.1 HK.out.2.2.2.2.2.2.1
      clear hW
      go_wp2_with fail
      have hD5 : Bytes S W5 (.slice B data.length cB) data := (Hm.out.2.mono (T := S) fun b hlt _ => HS.out.2.2.2 b hlt).keep HB5.out
      have hll : (encHead ⟨k0, k1, k2, k3, k4, k5, k6, k7, true, l, data⟩ ++ encEs l).length ≤ 70000 := by
        rw [List.length_append, encHead_length, encEs_length]
        have h2 := HG.out.2.2.2.1
        unfold msgSize at h2
        simp only at h2
        omega
      refine (wr_bytes4 HW.out (.slice B data.length cB) data (hD5.keepS HW.out.same) (by omega) HG.out.2.2.1).mono ?_
      rintro _ w23 ⟨⟨v23, rfl⟩, hw⟩
      have hw2 : Wr 142 W5 S w2.heap.size w2.heap.size w23 (encM ⟨k0, k1, k2, k3, k4, k5, k6, k7, true, l, data⟩) := hw
      have HW := Lib.hid hw2
      have l0 := hw2.cell HS.out.2.1 HK.out.2.2.2.2.2.2.2.1
      clear hw hw2 hD5 hll m10
      go_wp2_with fail
      have hml : (encM ⟨k0, k1, k2, k3, k4, k5, k6, k7, true, l, data⟩).length ≤ 70000 := by have := HG.out.2.2.2; omega
      have HML := Lib.hid hml
      refine (wr_end HW.out (by omega)).mono ?_
      rintro _ w24 ⟨vb, rfl, hvb, hb⟩
      obtain ⟨AB, cB2, rfl⟩ := hvb.slice
      have HVB := Lib.hid hvb
      have HW := Lib.hid (HW.out.below hb)
      have l0 := HW.out.cell HS.out.2.1 HK.out.2.2.2.2.2.2.2.1
      clear hvb hb hml
      go_wp2_with fail
      have hsum := (sum_any _ _ w24.drew (HVB.out.keep (below_drew1 (Below.refl _ w24)))).mono (R' := fun e w' => e = .returned (.int .u32 (crcSum (encM ⟨k0, k1, k2, k3, k4, k5, k6, k7, true, l, data⟩))) ∧ w' = w24.drew) (fun _ _ h => ⟨h.1, h.2.symm⟩)
      have HSUM := Lib.hid hsum
      have hcl := crcSum_lt (encM ⟨k0, k1, k2, k3, k4, k5, k6, k7, true, l, data⟩)
      obtain ⟨C, hC⟩ : ∃ C, C = crcSum (encM ⟨k0, k1, k2, k3, k4, k5, k6, k7, true, l, data⟩) := ⟨_, rfl⟩
      rw [← hC] at HSUM hcl
      have HCC := Lib.hid hC
      clear hsum hC
      go_still_tail 5, (by kernel_rfl)
      still_call HSUM.out
      repeat still_step
      try refine wpStill_nil ?_
      change wpList _ _ _ _ _ w24.drew
      have HW := Lib.hid (HW.out.below (below_drew1 (Below.refl _ w24)))
      go_wp2_with fail
      refine (wr_num4 HW.out C (by omega) (by omega) (by have := HML.out; omega)).mono ?_
      rintro _ w25 ⟨⟨v25, rfl⟩, hw⟩
      rw [Int.toNat_natCast] at hw
      have hw2 : Wr 142 W5 S w2.heap.size w2.heap.size w25 M := by rw [HM.out, ← HCC.out]; exact hw
      have hml : M.length ≤ 80000 := by rw [HM.out, List.length_append, be_length]; have := HML.out; omega
      have HW := Lib.hid hw2
      have l0 := hw2.cell HS.out.2.1 HK.out.2.2.2.2.2.2.2.1
      have HMLL := Lib.hid hml
      clear hw hw2 hml
      go_wp2_with fail
      refine (wr_end HW.out (by have := HMLL.out; omega)).mono ?_
      rintro _ w26 ⟨vr, rfl, hvr, hb⟩
      obtain ⟨AR, cR, rfl⟩ := hvr.slice
      have hbw : Below w.heap.size w w25 := HB5.out.trans (HW.out.bel.mono HB2.out.size)
      have hyr : Bytes (w.heap.size ≤ ·) w26 (.slice AR M.length cR) M := hvr.mono fun b _ h => Nat.le_trans hbw.size h
      have HYR := Lib.hid hyr
      have HBR := Lib.hid (below_then hbw hb)
      clear hvr hb hbw hyr
      go_wp2_with fail
      go_ret2
      exact ⟨_, rfl, HYR.out, HBR.out⟩
set_option maxRecDepth 100000 in
set_option maxHeartbeats 8000000 in
theorem packMsg_false {S0 : Nat → Prop} (m : Msg) (vl vd : Value) (w : World) (hm : MsgAt S0 w m vl vd) (hf : Fine m) (hL : longB m = false) (hO : msgOK m = true) (hy : m.yes = false) :
    Calls Try.prog 33 #[.agg (msgCells m vl vd).toArray] w fun e w' => ∃ v, e = .returned (.tuple #[v, .int .i64 0]) ∧ Bytes (w.heap.size ≤ ·) w' v (encM m ++ be 4 (crcSum (encM m))) ∧ Below w.heap.size w w' := by
  have hb0 := box_below w (.cells (msgCells m vl vd).toArray 65)
  have hE := blk_new w (.cells (msgCells m vl vd).toArray 65)
  have hlong := long_any m vl vd _ (hm.keep hb0) hf
  rw [hL] at hlong
  have hfit := fun W (hb : Below w.heap.size w W) => mfits_any m vl vd W (hm.keep hb)
  rw [hO] at hfit
  obtain ⟨f3, f4, f5, f6, f7, f0, f1, f2, fl⟩ := msgOK_facts hO
  obtain ⟨g1, g2, g3⟩ := longB_facts hL
  have hlen := encM_length m
  have Hm := Lib.hid (And.intro hm.1 hm.2.1)
  obtain ⟨A, cA, rfl⟩ := hm.1.slice
  obtain ⟨B, cB, rfl⟩ := hm.2.1.slice
  obtain ⟨M, hM⟩ : ∃ M, M = encM m ++ be 4 (crcSum (encM m)) := ⟨_, rfl⟩
  rw [← hM]
  have HM := Lib.hid hM
  obtain ⟨k0, k1, k2, k3, k4, k5, k6, k7, yes, l, data⟩ := m
  simp only at hy f3 f4 f5 f6 f7 f0 f1 f2 fl g1 g2
  subst hy
  simp only [msgCells] at hb0 hlong hfit hE ⊢
  have HB := Lib.hid hb0
  have HL := Lib.hid hlong
  have HF := Lib.hid hfit
  have HE := Lib.hid hE
  have HG := Lib.hid (And.intro fl (And.intro g1 (And.intro g2 (And.intro g3 hlen))))
  clear hm hf hL hO hb0 hlong hfit hE hM fl g1 g2 g3 hlen
  go_enter Try.func33, Try.ntmps33
  go_wp2_with fail
  refine HL.out.mono ?_
  rintro _ w1 ⟨rfl, hb⟩
  obtain ⟨⟨d0, d1, d2, d3, d4, d5, d6, d7, d8, d9, d10⟩, -⟩ := cells11 (blk_keep hb HE.out)
  have HF1 := Lib.hid (HF.out w1 (below_then HB.out hb))
  have HB1 := Lib.hid (below_then HB.out hb)
  have HE1 := Lib.hid (blk_keep hb HE.out)
  clear hb
  go_wp2_with fail
  refine HF1.out.mono ?_
  rintro _ w2 ⟨rfl, hb⟩
  obtain ⟨⟨d0, d1, d2, d3, d4, d5, d6, d7, d8, d9, d10⟩, -⟩ := cells11 (blk_keep hb HE1.out)
  have HB2 := Lib.hid (below_then HB1.out hb)
  have HE2 := Lib.hid (blk_keep hb HE1.out)
  clear hb
  go_wp2_with fail
  refine (newWriter_any w2).mono ?_
  rintro _ _ ⟨rfl, rfl⟩
  have bw := box_below w2 (.cells #[.slice none 0 0, .int .i64 0] 142)
  have a0 := fun o => cell_keep (box_below (w2.alloc (.cells #[.slice none 0 0, .int .i64 0] 142)) o) (cell_keep bw d0)
  have a1 := fun o => cell_keep (box_below (w2.alloc (.cells #[.slice none 0 0, .int .i64 0] 142)) o) (cell_keep bw d1)
  have a2 := fun o => cell_keep (box_below (w2.alloc (.cells #[.slice none 0 0, .int .i64 0] 142)) o) (cell_keep bw d2)
  clear d0 d1 d2 d3 d4 d5 d6 d7 d8 d9 d10
  go_wp2_with fail
  clear a0 a1 a2
  have bl := box_below (w2.alloc (.cells #[.slice none 0 0, .int .i64 0] 142)) (.cells #[.pointer (some ⟨w2.heap.size, 0, none⟩)] 104)
  have bi := box_below ((w2.alloc (.cells #[.slice none 0 0, .int .i64 0] 142)).alloc (.cells #[.pointer (some ⟨w2.heap.size, 0, none⟩)] 104)) (.cells #[.int .i64 202, .int .i64 k0, .int .i64 k1, .int .i64 k2, .int .i64 0] 3)
  have h5 := (wrS_new 142 w2).grow (below_then bl bi)
  have eL := blk_keep bi (blk_new (w2.alloc (.cells #[.slice none 0 0, .int .i64 0] 142)) (.cells #[.pointer (some ⟨w2.heap.size, 0, none⟩)] 104))
  have eI := blk_new ((w2.alloc (.cells #[.slice none 0 0, .int .i64 0] 142)).alloc (.cells #[.pointer (some ⟨w2.heap.size, 0, none⟩)] 104)) (.cells #[.int .i64 202, .int .i64 k0, .int .i64 k1, .int .i64 k2, .int .i64 0] 3)
  have b5 := below_then HB2.out (below_then bw (below_then bl bi))
  have eM := blk_keep (below_then bw (below_then bl bi)) HE2.out
  have z5 : (((w2.alloc (.cells #[.slice none 0 0, .int .i64 0] 142)).alloc (.cells #[.pointer (some ⟨w2.heap.size, 0, none⟩)] 104)).alloc (.cells #[.int .i64 202, .int .i64 k0, .int .i64 k1, .int .i64 k2, .int .i64 0] 3)).heap.size = w2.heap.size + 3 := by simp
  have z3 : (w2.alloc (.cells #[.slice none 0 0, .int .i64 0] 142)).heap.size = w2.heap.size + 1 := by simp
  have z4 : ((w2.alloc (.cells #[.slice none 0 0, .int .i64 0] 142)).alloc (.cells #[.pointer (some ⟨w2.heap.size, 0, none⟩)] 104)).heap.size = w2.heap.size + 1 + 1 := by simp
  rw [z3] at eL
  rw [z4] at eI
  rw [z3, z5] at h5
  obtain ⟨W5, hW5⟩ : ∃ W, ((w2.alloc (.cells #[.slice none 0 0, .int .i64 0] 142)).alloc (.cells #[.pointer (some ⟨w2.heap.size, 0, none⟩)] 104)).alloc (.cells #[.int .i64 202, .int .i64 k0, .int .i64 k1, .int .i64 k2, .int .i64 0] 3) = W := ⟨_, rfl⟩
  rw [hW5] at h5 eL eI b5 eM z5 ⊢
  obtain ⟨S, hS⟩ : ∃ S : Nat → Prop, S = fun b => b < w2.heap.size ∨ w2.heap.size + 1 ≤ b ∧ b < w2.heap.size + 3 := ⟨_, rfl⟩
  rw [← hS] at h5
  have sM : S w.heap.size := by rw [hS]; left; exact (Array.getElem?_eq_some_iff.1 HE2.out).1
  have sL : S (w2.heap.size + 1) := by rw [hS]; right; omega
  have sI : S (w2.heap.size + 1 + 1) := by rw [hS]; right; omega
  have slow : ∀ b, b < w.heap.size → S b := fun b hb => by rw [hS]; left; have := HB2.out.size; omega
  have hWr : Wr 142 W5 S w2.heap.size w2.heap.size W5 [] := ⟨h5, Same.refl _ _, Below.refl _ _, fun b hb => by rw [hS] at hb; rw [z5]; omega, by omega⟩
  have HW := Lib.hid hWr
  have HS := Lib.hid (And.intro sM (And.intro sL (And.intro sI slow)))
  have HB5 := Lib.hid b5
  have HZ := Lib.hid z5
  obtain ⟨⟨m0, m1, m2, m3, m4, m5, m6, m7, m8, m9, m10⟩, -⟩ := cells11 eM
  obtain ⟨l0, -⟩ := cells1 eL
  obtain ⟨i0, i1, i2, i3, i4, -⟩ := cells5 eI
  have HK := Lib.hid (And.intro m3 (And.intro m4 (And.intro m5 (And.intro m6 (And.intro m7 (And.intro m9 (And.intro m10 (And.intro l0 (And.intro i0 (And.intro i1 (And.intro i2 (And.intro i3 i4))))))))))))
  clear hW5 h5 eL eI b5 eM z5 z3 z4 hS sM sL sI slow hWr bw bl bi m0 m1 m2 m3 m4 m5 m6 m7 m8 m9 m10 i1 i2 i3 i4
  refine wp_loop_rounds 6 ?_
  rw [rounds_succ]
  go_wp2_with fail
  refine (wr_num1 HW.out (202) (by omega) (by omega) (by simp [])).mono ?_
  rintro _ w10 ⟨⟨u0, rfl⟩, hw⟩
  have HW := Lib.hid hw
  have l0 := hw.cell HS.out.2.1 HK.out.2.2.2.2.2.2.2.1
  have i1 := hw.cell HS.out.2.2.1 HK.out.2.2.2.2.2.2.2.2.2.1
  clear hw
  go_wp2_with fail
  rw [rounds_succ]
  go_wp2_with fail
  refine (wr_num1 HW.out (k0) (by omega) (by omega) (by simp [be_length])).mono ?_
  rintro _ w11 ⟨⟨u1, rfl⟩, hw⟩
  have HW := Lib.hid hw
  have l0 := hw.cell HS.out.2.1 HK.out.2.2.2.2.2.2.2.1
  have i2 := hw.cell HS.out.2.2.1 HK.out.2.2.2.2.2.2.2.2.2.2.1
  clear hw
  go_wp2_with fail
  rw [rounds_succ]
  go_wp2_with fail
  refine (wr_num1 HW.out (k1) (by omega) (by omega) (by simp [be_length])).mono ?_
  rintro _ w12 ⟨⟨u2, rfl⟩, hw⟩
  have HW := Lib.hid hw
  have l0 := hw.cell HS.out.2.1 HK.out.2.2.2.2.2.2.2.1
  have i3 := hw.cell HS.out.2.2.1 HK.out.2.2.2.2.2.2.2.2.2.2.2.1
  clear hw
  go_wp2_with fail
  rw [rounds_succ]
  go_wp2_with fail
  refine (wr_num1 HW.out (k2) (by omega) (by omega) (by simp [be_length])).mono ?_
  rintro _ w13 ⟨⟨u3, rfl⟩, hw⟩
  have HW := Lib.hid hw
  have l0 := hw.cell HS.out.2.1 HK.out.2.2.2.2.2.2.2.1
  have i4 := hw.cell HS.out.2.2.1 HK.out.2.2.2.2.2.2.2.2.2.2.2.2
  clear hw
  go_wp2_with fail
  rw [rounds_succ]
  go_wp2_with fail
  refine (wr_num1 HW.out (0) (by omega) (by omega) (by simp [be_length])).mono ?_
  rintro _ w14 ⟨⟨u4, rfl⟩, hw⟩
  have HW := Lib.hid hw
  have l0 := hw.cell HS.out.2.1 HK.out.2.2.2.2.2.2.2.1
  clear hw
  go_wp2_with fail
  rw [rounds_succ]
  go_wp2_with fail
  refine (numbers_any w.heap.size w14).mono ?_
  rintro _ w15 ⟨rfl, hb⟩
  have HW := Lib.hid (HW.out.below hb)
  have l0 := HW.out.cell HS.out.2.1 HK.out.2.2.2.2.2.2.2.1
  have m3 := HW.out.cell HS.out.1 HK.out.1
  clear hb
  go_wp2_with fail
  refine wp_loop_rounds 6 ?_
  rw [rounds_succ]
  go_wp2_with fail
  go_still_tail 5, (by kernel_rfl)
  change wpList _ _ _ _ _ w15.drew
  have HW := Lib.hid (HW.out.below (below_drew1 (Below.refl _ w15)))
  go_wp2_with fail
  refine (wr_num6 HW.out k3 (by omega) (by omega) (by simp [be_length])).mono ?_
  rintro _ w16 ⟨⟨v3, rfl⟩, hw⟩
  have HW := Lib.hid hw
  have l0 := hw.cell HS.out.2.1 HK.out.2.2.2.2.2.2.2.1
  have m4 := hw.cell HS.out.1 HK.out.2.1
  clear hw
  go_wp2_with fail
  rw [rounds_succ]
  go_wp2_with fail
  go_still_tail 5, (by kernel_rfl)
  change wpList _ _ _ _ _ w16.drew
  have HW := Lib.hid (HW.out.below (below_drew1 (Below.refl _ w16)))
  go_wp2_with fail
  refine (wr_num6 HW.out k4 (by omega) (by omega) (by simp [be_length])).mono ?_
  rintro _ w17 ⟨⟨v4, rfl⟩, hw⟩
  have HW := Lib.hid hw
  have l0 := hw.cell HS.out.2.1 HK.out.2.2.2.2.2.2.2.1
  have m5 := hw.cell HS.out.1 HK.out.2.2.1
  clear hw
  go_wp2_with fail
  rw [rounds_succ]
  go_wp2_with fail
  go_still_tail 5, (by kernel_rfl)
  change wpList _ _ _ _ _ w17.drew
  have HW := Lib.hid (HW.out.below (below_drew1 (Below.refl _ w17)))
  go_wp2_with fail
  refine (wr_num6 HW.out k5 (by omega) (by omega) (by simp [be_length])).mono ?_
  rintro _ w18 ⟨⟨v5, rfl⟩, hw⟩
  have HW := Lib.hid hw
  have l0 := hw.cell HS.out.2.1 HK.out.2.2.2.2.2.2.2.1
  have m6 := hw.cell HS.out.1 HK.out.2.2.2.1
  clear hw
  go_wp2_with fail
  rw [rounds_succ]
  go_wp2_with fail
  go_still_tail 5, (by kernel_rfl)
  change wpList _ _ _ _ _ w18.drew
  have HW := Lib.hid (HW.out.below (below_drew1 (Below.refl _ w18)))
  go_wp2_with fail
  refine (wr_num6 HW.out k6 (by omega) (by omega) (by simp [be_length])).mono ?_
  rintro _ w19 ⟨⟨v6, rfl⟩, hw⟩
  have HW := Lib.hid hw
  have l0 := hw.cell HS.out.2.1 HK.out.2.2.2.2.2.2.2.1
  have m7 := hw.cell HS.out.1 HK.out.2.2.2.2.1
  clear hw
  go_wp2_with fail
  rw [rounds_succ]
  go_wp2_with fail
  go_still_tail 5, (by kernel_rfl)
  change wpList _ _ _ _ _ w19.drew
  have HW := Lib.hid (HW.out.below (below_drew1 (Below.refl _ w19)))
  go_wp2_with fail
  refine (wr_num6 HW.out k7 (by omega) (by omega) (by simp [be_length])).mono ?_
  rintro _ w20 ⟨⟨v7, rfl⟩, hw⟩
  have HW := Lib.hid hw
  have l0 := hw.cell HS.out.2.1 HK.out.2.2.2.2.2.2.2.1
  have m9 := hw.cell HS.out.1 HK.out.2.2.2.2.2.1
  clear hw
  go_wp2_with fail
  rw [rounds_succ]
  go_wp2_with fail
  refine (wr_num2 HW.out l.length (by omega) (by have := HG.out; omega) (by simp [be_length])).mono ?_
  rintro _ w21 ⟨⟨v21, rfl⟩, hw⟩
  have hhead : Wr 142 W5 S w2.heap.size w2.heap.size w21 (encHead ⟨k0, k1, k2, k3, k4, k5, k6, k7, false, l, data⟩) := by simpa [encHead, List.append_assoc] using hw
  have HW := Lib.hid hhead
  have m9 := hhead.cell HS.out.1 HK.out.2.2.2.2.2.1
  have l0 := hhead.cell HS.out.2.1 HK.out.2.2.2.2.2.2.2.1
  clear hw hhead
  go_wp2_with fail
  have hEm : Ents S W5 (.slice A l.length cA) l := (Hm.out.1.mono (T := S) fun b hlt _ => HS.out.2.2.2 b hlt).keep HB5.out
  have HEm := Lib.hid hEm
  have hlt96 := HG.out.2.1
  clear hEm
  go_loopw [64] (fun s64 wr => ∃ k : Nat, k ≤ l.length ∧ s64 = .int .i64 k ∧ Hid (Wr 142 W5 S w2.heap.size w2.heap.size wr (encHead ⟨k0, k1, k2, k3, k4, k5, k6, k7, false, l, data⟩ ++ encEs (l.take k)))) (fun s64 _ => l.length - (intOf s64).toNat)
  case atStart => exact ⟨0, Nat.zero_le _, rfl, Lib.hid (by simpa [encEs] using HW.out)⟩
  case round =>
    clear l0 m9 HW
    obtain ⟨k, hk, rfl, HW⟩ := hrel
    have l0 := HW.out.cell HS.out.2.1 HK.out.2.2.2.2.2.2.2.1
    by_cases hlt : k < l.length
    · obtain ⟨cs, hr, he⟩ := HEm.out.keepS HW.out.same
      obtain ⟨ab, ao, ac, hv, hn, hc, -, hab, hcell⟩ := hr.form (by omega)
      injection hv with hv1 _ hv3
      subst hv1 hv3
      obtain ⟨ev, x0, x1, x2, -, -, hy⟩ := he.at k hlt
      have x0 := hcell _ _ x0
      have x1 := hcell _ _ x1
      have x2 := hcell _ _ x2
      rw [← Nat.add_assoc] at x1 x2
      obtain ⟨AE, cE, rfl⟩ := hy.slice
      have hlt2 : (k : Int) < (l.length : Int) := by omega
      have hsn : l.take (k + 1) = l.take k ++ [l[k]] := by rw [List.take_succ_eq_append_getElem hlt]
      have henc := encEs_snoc (l.take k) l[k]
      rw [← hsn] at henc
      have hsz : (encHead ⟨k0, k1, k2, k3, k4, k5, k6, k7, false, l, data⟩ ++ encEs (l.take k)).length ≤ 90000000 := by
        rw [List.length_append, encHead_length, encEs_length]
        have h1 := entsSize_take_le l k
        have h2 := HG.out.2.2.2.1
        unfold msgSize at h2
        simp only at h2
        omega
      have hbx := box_below wr (.cells #[.int .i64 l[k].kind, .int .i64 l[k].term, .slice AE l[k].cmd.length cE] 33)
      have l1 := cell_keep hbx l0
      have hcl := wr_entry (HW.out.below hbx) l[k] (.slice AE l[k].cmd.length cE) (hy.keep hbx) (HG.out.1 _ (List.getElem_mem hlt)) hsz
      have HC := Lib.hid hcl
      have Henc := Lib.hid henc
      unfold maxLen at hc
      clear hsn henc hsz hbx hcl hy he hr hcell
      go_wp2_with fail
      refine HC.out.mono ?_
      rintro _ w22 ⟨⟨v22, rfl⟩, hw⟩
      have hw2 : Hid (Wr 142 W5 S w2.heap.size w2.heap.size w22 (encHead ⟨k0, k1, k2, k3, k4, k5, k6, k7, false, l, data⟩ ++ encEs (l.take (k + 1)))) := Lib.hid (by rw [Henc.out, ← List.append_assoc]; exact hw)
      clear hw
      go_wp2_with fail
      go_roundw
      case rel => exact ⟨k + 1, hlt, by go_num, hw2⟩
      case measure => simp [intOf]; omega
    · obtain rfl : k = l.length := by omega
      have hW := HW.out
      rw [List.take_length] at hW
      have HW := Lib.hid hW
      have m10 := hW.cell HS.out.1 HK.out.2.2.2.2.2.2.1
      clear hW
      go_wp2_with fail
      have hD5 : Bytes S W5 (.slice B data.length cB) data := (Hm.out.2.mono (T := S) fun b hlt _ => HS.out.2.2.2 b hlt).keep HB5.out
      have hll : (encHead ⟨k0, k1, k2, k3, k4, k5, k6, k7, false, l, data⟩ ++ encEs l).length ≤ 70000 := by
        rw [List.length_append, encHead_length, encEs_length]
        have h2 := HG.out.2.2.2.1
        unfold msgSize at h2
        simp only at h2
        omega
      refine (wr_bytes4 HW.out (.slice B data.length cB) data (hD5.keepS HW.out.same) (by omega) HG.out.2.2.1).mono ?_
      rintro _ w23 ⟨⟨v23, rfl⟩, hw⟩
      have hw2 : Wr 142 W5 S w2.heap.size w2.heap.size w23 (encM ⟨k0, k1, k2, k3, k4, k5, k6, k7, false, l, data⟩) := hw
      have HW := Lib.hid hw2
      have l0 := hw2.cell HS.out.2.1 HK.out.2.2.2.2.2.2.2.1
      clear hw hw2 hD5 hll m10
      go_wp2_with fail
      have hml : (encM ⟨k0, k1, k2, k3, k4, k5, k6, k7, false, l, data⟩).length ≤ 70000 := by have := HG.out.2.2.2; omega
      have HML := Lib.hid hml
      refine (wr_end HW.out (by omega)).mono ?_
      rintro _ w24 ⟨vb, rfl, hvb, hb⟩
      obtain ⟨AB, cB2, rfl⟩ := hvb.slice
      have HVB := Lib.hid hvb
      have HW := Lib.hid (HW.out.below hb)
      have l0 := HW.out.cell HS.out.2.1 HK.out.2.2.2.2.2.2.2.1
      clear hvb hb hml
      go_wp2_with fail
      have hsum := (sum_any _ _ w24.drew (HVB.out.keep (below_drew1 (Below.refl _ w24)))).mono (R' := fun e w' => e = .returned (.int .u32 (crcSum (encM ⟨k0, k1, k2, k3, k4, k5, k6, k7, false, l, data⟩))) ∧ w' = w24.drew) (fun _ _ h => ⟨h.1, h.2.symm⟩)
      have HSUM := Lib.hid hsum
      have hcl := crcSum_lt (encM ⟨k0, k1, k2, k3, k4, k5, k6, k7, false, l, data⟩)
      obtain ⟨C, hC⟩ : ∃ C, C = crcSum (encM ⟨k0, k1, k2, k3, k4, k5, k6, k7, false, l, data⟩) := ⟨_, rfl⟩
      rw [← hC] at HSUM hcl
      have HCC := Lib.hid hC
      clear hsum hC
      go_still_tail 5, (by kernel_rfl)
      still_call HSUM.out
      repeat still_step
      try refine wpStill_nil ?_
      change wpList _ _ _ _ _ w24.drew
      have HW := Lib.hid (HW.out.below (below_drew1 (Below.refl _ w24)))
      go_wp2_with fail
      refine (wr_num4 HW.out C (by omega) (by omega) (by have := HML.out; omega)).mono ?_
      rintro _ w25 ⟨⟨v25, rfl⟩, hw⟩
      rw [Int.toNat_natCast] at hw
      have hw2 : Wr 142 W5 S w2.heap.size w2.heap.size w25 M := by rw [HM.out, ← HCC.out]; exact hw
      have hml : M.length ≤ 80000 := by rw [HM.out, List.length_append, be_length]; have := HML.out; omega
      have HW := Lib.hid hw2
      have l0 := hw2.cell HS.out.2.1 HK.out.2.2.2.2.2.2.2.1
      have HMLL := Lib.hid hml
      clear hw hw2 hml
      go_wp2_with fail
      refine (wr_end HW.out (by have := HMLL.out; omega)).mono ?_
      rintro _ w26 ⟨vr, rfl, hvr, hb⟩
      obtain ⟨AR, cR, rfl⟩ := hvr.slice
      have hbw : Below w.heap.size w w25 := HB5.out.trans (HW.out.bel.mono HB2.out.size)
      have hyr : Bytes (w.heap.size ≤ ·) w26 (.slice AR M.length cR) M := hvr.mono fun b _ h => Nat.le_trans hbw.size h
      have HYR := Lib.hid hyr
      have HBR := Lib.hid (below_then hbw hb)
      clear hvr hb hbw hyr
      go_wp2_with fail
      go_ret2
      exact ⟨_, rfl, HYR.out, HBR.out⟩

theorem packMsg_any {S0 : Nat → Prop} (m : Msg) (vl vd : Value) (w : World) (hm : MsgAt S0 w m vl vd) (hf : Fine m) :
    Calls Try.prog 33 #[.agg (msgCells m vl vd).toArray] w fun e w' => ∃ v, e = .returned (.tuple #[v, .int .i64 (packM m).2]) ∧ Bytes (w.heap.size ≤ ·) w' v (packM m).1 ∧ Below w.heap.size w w' := by
  unfold packM
  cases hL : longB m with
  | true =>
    rw [if_pos rfl]
    exact (packMsg_long m vl vd w hm hf hL).mono (by rintro _ w' ⟨rfl, hb⟩; exact ⟨_, rfl, ⟨rfl, .inl ⟨rfl, .inl rfl⟩⟩, hb⟩)
  | false =>
    rw [if_neg (by simp)]
    cases hO : msgOK m with
    | true =>
      rw [if_pos rfl]
      cases hy : m.yes with
      | true => exact packMsg_true m vl vd w hm hf hL hO hy
      | false => exact packMsg_false m vl vd w hm hf hL hO hy
    | false =>
      rw [if_neg (by simp)]
      exact (packMsg_no m vl vd w hm hf hL hO).mono (by rintro _ w' ⟨rfl, hb⟩; exact ⟨_, rfl, ⟨rfl, .inl ⟨rfl, .inl rfl⟩⟩, hb⟩)
end Go.Proofs.Ytoaoldhajpbenaa

namespace Go.Proofs.Ytoaoldhajpbenaa
open Go.RowKit

set_option maxRecDepth 100000 in
set_option maxHeartbeats 4000000 in
theorem qrightMsg_any {S : Nat → Prop} (m : Msg) (vl vd : Value) (w : World) (hm : MsgAt S w m vl vd) :
    Calls Try.prog 69 #[.agg (msgCells m vl vd).toArray] w fun e w' => e = .returned (.bool (msgOK m)) ∧ Below w.heap.size w w' := by
  have hb0 := box_below w (.cells (msgCells m vl vd).toArray 65)
  have hE := blk_new w (.cells (msgCells m vl vd).toArray 65)
  have Hm := Lib.hid (hm.1.keep hb0)
  have hle : m.l.length ≤ 9223372036854775807 := by obtain ⟨cs, hr, -⟩ := hm.1; have := hr.le; unfold maxLen at this; omega
  obtain ⟨A, cA, rfl⟩ := hm.1.slice
  obtain ⟨B, cB, rfl⟩ := hm.2.1.slice
  obtain ⟨k0, k1, k2, k3, k4, k5, k6, k7, yes, l, data⟩ := m
  have hok : msgOK ⟨k0, k1, k2, k3, k4, k5, k6, k7, yes, l, data⟩ = ((mayB k3 && mayB k4 && mayB k5 && mayB k6 && mayB k7) && !(out255 k0 || out255 k1 || out255 k2) && l.all rightB) := rfl
  rw [hok]
  simp only [msgCells] at hb0 hE hle Hm ⊢
  obtain ⟨W, hW⟩ : ∃ W, w.alloc (.cells #[.int .i64 k0, .int .i64 k1, .int .i64 k2, .int .i64 k3, .int .i64 k4, .int .i64 k5, .int .i64 k6, .int .i64 k7, .bool yes, .slice A l.length cA, .slice B data.length cB] 65) = W := ⟨_, rfl⟩
  have hE : W.heap[w.heap.size]? = some (.cells #[.int .i64 k0, .int .i64 k1, .int .i64 k2, .int .i64 k3, .int .i64 k4, .int .i64 k5, .int .i64 k6, .int .i64 k7, .bool yes, .slice A l.length cA, .slice B data.length cB] 65 (0, 0)) := by rw [← hW]; exact hE
  have HE : Hid (Ents S W (.slice A l.length cA) l) := Lib.hid (by rw [← hW]; exact Hm.out)
  have HB : Hid (Below w.heap.size w W) := Lib.hid (by rw [← hW]; exact hb0)
  obtain ⟨⟨d0, d1, d2, d3, d4, d5, d6, d7, d8, d9, d10⟩, -⟩ := cells11 hE
  clear hm hb0 hok Hm hE
  go_enter Try.func69, Try.ntmps69
  go_upto_region 1 with (fail)
  go_cut [3] (fun s3 wc => s3 = .bool (mayB k3 && mayB k4 && mayB k5 && mayB k6 && mayB k7) ∧ W = wc)
  case first =>
    cases h3 : mayB k3 with
    | false =>
      go_wp2_with (go_at_call 86; refine (qcan_any _ _).mono ?_; rintro _ _ ⟨rfl, rfl⟩)
      go_meet
      case rel => exact ⟨by rw [h3]; rfl, rfl⟩
    | true =>
      cases h4 : mayB k4 with
      | false =>
        go_wp2_with (go_at_call 86; refine (qcan_any _ _).mono ?_; rintro _ _ ⟨rfl, rfl⟩)
        go_meet
        case rel => exact ⟨by rw [h3, h4]; rfl, rfl⟩
      | true =>
        cases h5 : mayB k5 with
        | false =>
          go_wp2_with (go_at_call 86; refine (qcan_any _ _).mono ?_; rintro _ _ ⟨rfl, rfl⟩)
          go_meet
          case rel => exact ⟨by rw [h3, h4, h5]; rfl, rfl⟩
        | true =>
          cases h6 : mayB k6 with
          | false =>
            go_wp2_with (go_at_call 86; refine (qcan_any _ _).mono ?_; rintro _ _ ⟨rfl, rfl⟩)
            go_meet
            case rel => exact ⟨by rw [h3, h4, h5, h6]; rfl, rfl⟩
          | true =>
            cases h7 : mayB k7 with
            | false =>
              go_wp2_with (go_at_call 86; refine (qcan_any _ _).mono ?_; rintro _ _ ⟨rfl, rfl⟩)
              go_meet
              case rel => exact ⟨by rw [h3, h4, h5, h6, h7]; rfl, rfl⟩
            | true =>
              go_wp2_with (go_at_call 86; refine (qcan_any _ _).mono ?_; rintro _ _ ⟨rfl, rfl⟩)
              go_meet
              case rel => exact ⟨by rw [h3, h4, h5, h6, h7]; rfl, rfl⟩
  case rest =>
    obtain ⟨rfl, rfl⟩ := hcut
    obtain ⟨b0, e0⟩ : ∃ b, b = (mayB k3 && mayB k4 && mayB k5 && mayB k6 && mayB k7) := ⟨_, rfl⟩
    rw [← e0]
    have H0 := Lib.hid e0
    clear e0
    go_upto_region 2 with (fail)
    go_cut [3] (fun s3 wc => s3 = .bool (b0 && !(out255 k0 || out255 k1 || out255 k2)) ∧ W = wc)
    case first =>
      cases b0 with
      | false =>
        go_wp2_with fail
        go_meet
        case rel => exact ⟨rfl, rfl⟩
      | true =>
        go_wp2_with fail
        all_goals go_meet
        all_goals refine ⟨congrArg Value.bool ?_, rfl⟩
        all_goals (rw [Bool.eq_iff_iff]; simp [out255]; omega)
    case rest =>
      obtain ⟨rfl, rfl⟩ := hcut
      obtain ⟨b1, e1⟩ : ∃ b, b = (b0 && !(out255 k0 || out255 k1 || out255 k2)) := ⟨_, rfl⟩
      rw [← e1]
      have H1 := Lib.hid e1
      clear e1
      go_wp2_with fail
      go_loopw [3, 4] (fun s3 s4 wr => ∃ k : Nat, k ≤ l.length ∧ s4 = .int .i64 k ∧ s3 = .bool (b1 && (l.take k).all rightB) ∧ Below W.heap.size W wr) (fun _ s4 _ => l.length - (intOf s4).toNat)
      case atStart => exact ⟨0, Nat.zero_le _, rfl, by simp, Below.refl _ _⟩
      case round =>
        obtain ⟨k, hk, rfl, rfl, hb⟩ := hrel
        have m9 := cell_keep hb d9
        by_cases hlt : k < l.length
        · have hsn : l.take (k + 1) = l.take k ++ [l[k]] := by rw [List.take_succ_eq_append_getElem hlt]
          have hall : (b1 && (l.take (k + 1)).all rightB) = ((b1 && (l.take k).all rightB) && rightB l[k]) := by rw [hsn, List.all_append]; simp [Bool.and_assoc]
          have HALL := Lib.hid hall
          have hlt2 : (k : Int) < (l.length : Int) := by omega
          have HBk := Lib.hid hb
          clear hsn hall
          generalize (b1 && (l.take k).all rightB) = bk at *
          cases bk with
          | false =>
            clear hb
            go_wp2_with fail
            go_roundw
            case rel => exact ⟨k + 1, hlt, by go_num, by rw [HALL.out]; rfl, HBk.out⟩
            case measure => simp [intOf]; omega
          | true =>
            obtain ⟨cs, hr, he⟩ := HE.out
            obtain ⟨ab, ao, ac, hv, hn, hc, -, hab, hcell⟩ := hr.form (by omega)
            injection hv with hv1 _ hv3
            subst hv1 hv3
            obtain ⟨ev, x0, x1, x2, -, -, hy⟩ := he.at k hlt
            have x0 := cell_keep hb (hcell _ _ x0)
            have x1 := cell_keep hb (hcell _ _ x1)
            have x2 := cell_keep hb (hcell _ _ x2)
            rw [← Nat.add_assoc] at x1 x2
            have hq := qright_any l[k].kind l[k].term ev l[k].cmd wr (hy.keep hb)
            have eta : (⟨l[k].kind, l[k].term, l[k].cmd⟩ : Ent) = l[k] := rfl
            rw [eta] at hq
            obtain ⟨AE, cE, rfl⟩ := hy.slice
            unfold maxLen at hc
            have Hq := Lib.hid hq
            clear eta hcell hr he hy hq hb
            go_wp2_with (go_at_call 54; refine Hq.out.mono ?_; rintro _ w1 ⟨rfl, hb1⟩)
            go_roundw
            case rel => exact ⟨k + 1, hlt, by go_num, by rw [HALL.out]; simp, below_then HBk.out hb1⟩
            case measure => simp [intOf]; omega
        · obtain rfl : k = l.length := by omega
          rw [List.take_length]
          go_wp2_with fail
          go_ret
          exact ⟨ret_bool (by rw [H1.out, H0.out]), below_then HB.out hb⟩
end Go.Proofs.Ytoaoldhajpbenaa

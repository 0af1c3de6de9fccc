/- Texts that belong together, in one file: LetG, LetH, LetI. No statement is proved here. -/
import Derived.Test.YtoaoldhajpbenaaQLetF
namespace Go.Proofs.Ytoaoldhajpbenaa
open Go.RowKit

set_option maxRecDepth 100000 in
set_option maxHeartbeats 4000000 in
theorem qpackMsg_long {S : Nat → Prop} (m : Msg) (vl vd : Value) (w : World) (hm : MsgAt S w m vl vd) (hf : Fine m) (hL : longB m = true) :
    Calls Try.prog 34 #[.agg (msgCells m vl vd).toArray] w fun e w' => e = .returned (.tuple #[.slice none 0 0, .int .i64 3]) ∧ Below w.heap.size w w' := by
  obtain ⟨hE, hD, -⟩ := hm
  have hb0 := box_below w (.cells (msgCells m vl vd).toArray 65)
  have hblk := blk_new w (.cells (msgCells m vl vd).toArray 65)
  obtain ⟨k0, k1, k2, k3, k4, k5, k6, k7, yes, l, data⟩ := m
  simp only [msgCells] at hE hD hb0 hblk ⊢
  obtain ⟨A, cA, rfl⟩ := hE.slice
  obtain ⟨B, cB, rfl⟩ := hD.slice
  obtain ⟨W, hW⟩ : ∃ W, w.alloc (.cells #[.int .i64 k0, .int .i64 k1, .int .i64 k2, .int .i64 k3, .int .i64 k4, .int .i64 k5, .int .i64 k6, .int .i64 k7, .bool yes, .slice A l.length cA, .slice B data.length cB] 65) = W := ⟨_, rfl⟩
  have HE : Hid (Ents S W (.slice A l.length cA) l) := Lib.hid (by rw [← hW]; exact hE.keep hb0)
  have HB : Hid (Below w.heap.size w W) := Lib.hid (by rw [← hW]; exact hb0)
  have hblk2 : W.heap[w.heap.size]? = some (.cells #[.int .i64 k0, .int .i64 k1, .int .i64 k2, .int .i64 k3, .int .i64 k4, .int .i64 k5, .int .i64 k6, .int .i64 k7, .bool yes, .slice A l.length cA, .slice B data.length cB] 65 (0, 0)) := by rw [← hW]; exact hblk
  obtain ⟨⟨d0, d1, d2, d3, d4, d5, d6, d7, d8, d9, d10⟩, -⟩ := cells11 hblk2
  have HF := Lib.hid hf.2
  clear hE hD hf hb0 hblk hblk2
  by_cases h1 : l.length > 4096
  · have h1' : (4096 : Int) < l.length := by omega
    clear hL
    go_enter Try.func34, Try.ntmps34
    go_wp2_with fail
    go_ret2
    exact ⟨rfl, HB.out⟩
  · by_cases h2 : data.length > 65536
    · have h1' : ¬ ((4096 : Int) < l.length) := by omega
      obtain ⟨D, hD⟩ : ∃ D : Int, D = data.length := ⟨_, rfl⟩
      have h2' : 65536 < D := by omega
      clear hL
      go_enter Try.func34, Try.ntmps34
      go_wp2_with fail
      go_ret2
      exact ⟨rfl, HB.out⟩
    · have h1' : ¬ ((4096 : Int) < l.length) := by omega
      obtain ⟨D, hD⟩ : ∃ D : Int, D = data.length := ⟨_, rfl⟩
      have h2' : ¬ (65536 < D) := by omega
      have hel : 65536 < 45 + data.length + entsSize l := by
        refine Decidable.byContradiction fun hc => ?_
        have hl : longB ⟨k0, k1, k2, k3, k4, k5, k6, k7, yes, l, data⟩ = false := by
          have a : decide (4096 < l.length) = false := by simpa using h1
          have b : decide (65536 < data.length) = false := by simpa using h2
          have c : decide (65536 < 45 + data.length + entsSize l) = false := by simpa using hc
          show (decide (4096 < l.length) || decide (65536 < data.length) || decide (65536 < 45 + data.length + entsSize l)) = false
          rw [a, b, c]
          rfl
        rw [hl] at hL
        cases hL
      have hD0 : 0 ≤ D := by omega
      have HD := Lib.hid hD
      have HEL := Lib.hid hel
      clear hel hL
      go_enter Try.func34, Try.ntmps34
      go_wp2_with fail
      clear hW
      go_loopw [4, 5] (fun s4 s5 wr => ∃ (k : Nat) (Z : Int), k ≤ l.length ∧ s5 = .int .i64 k ∧ s4 = .int .i64 Z ∧ Hid (Z = 45 + data.length + entsSize (l.take k)) ∧ 0 ≤ Z ∧ Z ≤ 65581 ∧ W = wr) (fun _ s5 _ => l.length - (intOf s5).toNat)
      case atStart => exact ⟨0, 45 + data.length, Nat.zero_le _, rfl, rfl, Lib.hid (by simp [entsSize]), by omega, by omega, rfl⟩
      case round =>
        obtain ⟨k, Z, hk, rfl, rfl, HZ, z0, z1, rfl⟩ := hrel
        by_cases hlt : k < l.length
        · obtain ⟨cs, hr, he⟩ := HE.out
          obtain ⟨ab, ao, ac, hv, hn, hc, -, hab, hcell⟩ := hr.form (by omega)
          injection hv with hv1 _ hv3
          subst hv1 hv3
          obtain ⟨ev, a0, a1, a2, -, -, hy⟩ := he.at k hlt
          have x2 := hcell _ _ a2
          rw [← Nat.add_assoc] at x2
          obtain ⟨AE, cE, rfl⟩ := hy.slice
          have hlt2 : (k : Int) < (l.length : Int) := by omega
          have hsn : l.take (k + 1) = l.take k ++ [l[k]] := by rw [List.take_succ_eq_append_getElem hlt]
          have hen := entsSize_snoc (l.take k) l[k]
          rw [← hsn] at hen
          have hle : l[k].cmd.length ≤ 140737488355328 := HF.out _ (List.getElem_mem hlt)
          unfold maxLen at hc
          obtain ⟨C, hC⟩ : ∃ C : Int, C = l[k].cmd.length := ⟨_, rfl⟩
          have c0 : 0 ≤ C := by omega
          have c1 : C ≤ 140737488355328 := by omega
          have HC := Lib.hid (And.intro hC hen)
          generalize l[k].cmd.length = cl at *
          clear hen hsn hcell a0 a1 a2 hr he hy
          go_wp2_with fail
          · go_ret2
            exact ⟨rfl, HB.out⟩
          · go_roundw
            case rel => exact ⟨k + 1, Z + 9 + C, hlt, by go_num, by rw [HC.out.1], Lib.hid (by have := HC.out; have := HZ.out; omega), by omega, by omega, by trivial⟩
            case measure => simp [intOf]; omega
        · obtain rfl : k = l.length := by omega
          have hz := HZ.out
          rw [List.take_length] at hz
          have hbig : 65536 < Z := by have := HEL.out; omega
          clear hz
          go_wp2_with fail
          go_ret2
          exact ⟨rfl, HB.out⟩

set_option maxRecDepth 100000 in
set_option maxHeartbeats 4000000 in
theorem qpackMsg_no {S : Nat → Prop} (m : Msg) (vl vd : Value) (w : World) (hm : MsgAt S w m vl vd) (hL : longB m = false) (hO : msgOK m = false) :
    Calls Try.prog 34 #[.agg (msgCells m vl vd).toArray] w fun e w' => e = .returned (.tuple #[.slice none 0 0, .int .i64 1]) ∧ Below w.heap.size w w' := by
  obtain ⟨g1, g2, g3⟩ := longB_facts hL
  have hb0 := box_below w (.cells (msgCells m vl vd).toArray 65)
  have hblk := blk_new w (.cells (msgCells m vl vd).toArray 65)
  have hfit := fun W (hb : Below w.heap.size w W) => qrightMsg_any m vl vd W (hm.keep hb)
  rw [hO] at hfit
  obtain ⟨hE, hD, -⟩ := hm
  obtain ⟨k0, k1, k2, k3, k4, k5, k6, k7, yes, l, data⟩ := m
  unfold msgSize at g3
  simp only [msgCells] at hE hD hb0 hblk hfit g1 g2 g3 ⊢
  obtain ⟨A, cA, rfl⟩ := hE.slice
  obtain ⟨B, cB, rfl⟩ := hD.slice
  obtain ⟨W, hW⟩ : ∃ W, w.alloc (.cells #[.int .i64 k0, .int .i64 k1, .int .i64 k2, .int .i64 k3, .int .i64 k4, .int .i64 k5, .int .i64 k6, .int .i64 k7, .bool yes, .slice A l.length cA, .slice B data.length cB] 65) = W := ⟨_, rfl⟩
  have HE : Hid (Ents S W (.slice A l.length cA) l) := Lib.hid (by rw [← hW]; exact hE.keep hb0)
  have HB : Hid (Below w.heap.size w W) := Lib.hid (by rw [← hW]; exact hb0)
  have hblk2 : W.heap[w.heap.size]? = some (.cells #[.int .i64 k0, .int .i64 k1, .int .i64 k2, .int .i64 k3, .int .i64 k4, .int .i64 k5, .int .i64 k6, .int .i64 k7, .bool yes, .slice A l.length cA, .slice B data.length cB] 65 (0, 0)) := by rw [← hW]; exact hblk
  obtain ⟨⟨d0, d1, d2, d3, d4, d5, d6, d7, d8, d9, d10⟩, -⟩ := cells11 hblk2
  have HFit := Lib.hid (hfit W HB.out)
  have HG3 := Lib.hid g3
  have h1' : ¬ ((4096 : Int) < l.length) := by omega
  obtain ⟨D, hD2⟩ : ∃ D : Int, D = data.length := ⟨_, rfl⟩
  have h2' : ¬ (65536 < D) := by omega
  have hD0 : 0 ≤ D := by omega
  clear hE hD hb0 hblk hblk2 hL hO hfit g1 g2 g3
  go_enter Try.func34, Try.ntmps34
  go_wp2_with fail
  clear hW
  go_loopw [4, 5] (fun s4 s5 wr => ∃ (k : Nat) (Z : Int), k ≤ l.length ∧ s5 = .int .i64 k ∧ s4 = .int .i64 Z ∧ Hid (Z = 45 + data.length + entsSize (l.take k)) ∧ 0 ≤ Z ∧ Z ≤ 65536 ∧ W = wr) (fun _ s5 _ => l.length - (intOf s5).toNat)
  case atStart => exact ⟨0, 45 + data.length, Nat.zero_le _, rfl, rfl, Lib.hid (by simp [entsSize]), by omega, by have := HG3.out; omega, rfl⟩
  case round =>
    obtain ⟨k, Z, hk, rfl, rfl, HZ, z0, z1, rfl⟩ := hrel
    by_cases hlt : k < l.length
    · obtain ⟨cs, hr, he⟩ := HE.out
      obtain ⟨ab, ao, ac, hv, hn, hc, -, hab, hcell⟩ := hr.form (by omega)
      injection hv with hv1 _ hv3
      subst hv1 hv3
      obtain ⟨ev, a0, a1, a2, -, -, hy⟩ := he.at k hlt
      have x2 := hcell _ _ a2
      rw [← Nat.add_assoc] at x2
      obtain ⟨AE, cE, rfl⟩ := hy.slice
      have hlt2 : (k : Int) < (l.length : Int) := by omega
      have hsn : l.take (k + 1) = l.take k ++ [l[k]] := by rw [List.take_succ_eq_append_getElem hlt]
      have hen := entsSize_snoc (l.take k) l[k]
      rw [← hsn] at hen
      have hts := entsSize_take_le l (k + 1)
      unfold maxLen at hc
      obtain ⟨C, hC⟩ : ∃ C : Int, C = l[k].cmd.length := ⟨_, rfl⟩
      have c0 : 0 ≤ C := by omega
      have c1 : Z + 9 + C ≤ 65536 := by have := HG3.out; have := HZ.out; omega
      have c2 : C ≤ 65536 := by omega
      have HC := Lib.hid (And.intro hC hen)
      generalize l[k].cmd.length = cl at *
      clear hen hsn hcell a0 a1 a2 hr he hy hts
      go_wp2_with fail
      go_roundw
      case rel => exact ⟨k + 1, Z + 9 + C, hlt, by go_num, by rw [HC.out.1], Lib.hid (by have := HC.out; have := HZ.out; omega), by omega, by omega, by trivial⟩
      case measure => simp [intOf]; omega
    · obtain rfl : k = l.length := by omega
      have hz := HZ.out
      rw [List.take_length] at hz
      have hbig : ¬ (65536 < Z) := by omega
      clear hz
      go_wp2_with fail
      refine HFit.out.mono ?_
      rintro _ w1 ⟨rfl, hb1⟩
      go_wp2_with fail
      go_ret2
      exact ⟨rfl, below_then HB.out hb1⟩

set_option maxRecDepth 100000 in
set_option maxHeartbeats 8000000 in
theorem qpackMsg_true {S0 : Nat → Prop} (m : Msg) (vl vd : Value) (w : World) (hm : MsgAt S0 w m vl vd) (hL : longB m = false) (hO : msgOK m = true) (hy : m.yes = true) :
    Calls Try.prog 34 #[.agg (msgCells m vl vd).toArray] w fun e w' => ∃ v, e = .returned (.tuple #[v, .int .i64 0]) ∧ Bytes (w.heap.size ≤ ·) w' v (encM m ++ be 4 (crcSum (encM m))) ∧ Below w.heap.size w w' := by
  obtain ⟨f3, f4, f5, f6, f7, f0, f1, f2, fl⟩ := msgOK_facts hO
  obtain ⟨g1, g2, g3⟩ := longB_facts hL
  have g3' := g3
  have hlen := encM_length m
  obtain ⟨M, hM⟩ : ∃ M, M = encM m ++ be 4 (crcSum (encM m)) := ⟨_, rfl⟩
  rw [← hM]
  have HM := Lib.hid hM
  have hb0 := box_below w (.cells (msgCells m vl vd).toArray 65)
  have hblk := blk_new w (.cells (msgCells m vl vd).toArray 65)
  have hfit := fun W (hb : Below w.heap.size w W) => qrightMsg_any m vl vd W (hm.keep hb)
  rw [hO] at hfit
  obtain ⟨hE, hD, -⟩ := hm
  obtain ⟨k0, k1, k2, k3, k4, k5, k6, k7, yes, l, data⟩ := m
  unfold msgSize at g3
  simp only [msgCells] at hE hD hb0 hblk hfit g1 g2 g3 hy f3 f4 f5 f6 f7 f0 f1 f2 fl ⊢
  subst hy
  obtain ⟨A, cA, rfl⟩ := hE.slice
  obtain ⟨B, cB, rfl⟩ := hD.slice
  obtain ⟨W, hW⟩ : ∃ W, w.alloc (.cells #[.int .i64 k0, .int .i64 k1, .int .i64 k2, .int .i64 k3, .int .i64 k4, .int .i64 k5, .int .i64 k6, .int .i64 k7, .bool true, .slice A l.length cA, .slice B data.length cB] 65) = W := ⟨_, rfl⟩
  have HE : Hid (Ents S0 W (.slice A l.length cA) l) := Lib.hid (by rw [← hW]; exact hE.keep hb0)
  have HB : Hid (Below w.heap.size w W) := Lib.hid (by rw [← hW]; exact hb0)
  have hblk2 : W.heap[w.heap.size]? = some (.cells #[.int .i64 k0, .int .i64 k1, .int .i64 k2, .int .i64 k3, .int .i64 k4, .int .i64 k5, .int .i64 k6, .int .i64 k7, .bool true, .slice A l.length cA, .slice B data.length cB] 65 (0, 0)) := by rw [← hW]; exact hblk
  have HG := Lib.hid (And.intro fl (And.intro g1 (And.intro g2 (And.intro g3' hlen))))
  have HBD : Hid (Bytes S0 W (.slice B data.length cB) data) := Lib.hid (by rw [← hW]; exact hD.keep hb0)
  have Hblk := Lib.hid hblk2
  have HLow := Lib.hid (And.intro hE hD)
  obtain ⟨⟨d0, d1, d2, d3, d4, d5, d6, d7, d8, d9, d10⟩, -⟩ := cells11 hblk2
  have HFit := Lib.hid (hfit W HB.out)
  have HG3 := Lib.hid g3
  have h1' : ¬ ((4096 : Int) < l.length) := by omega
  obtain ⟨D, hD2⟩ : ∃ D : Int, D = data.length := ⟨_, rfl⟩
  have h2' : ¬ (65536 < D) := by omega
  have hD0 : 0 ≤ D := by omega
  clear hE hD hb0 hblk hblk2 hL hO hfit g1 g2 g3 g3' hM fl hlen
  go_enter Try.func34, Try.ntmps34
  go_wp2_with fail
  clear hW
  go_loopw [4, 5] (fun s4 s5 wr => ∃ (k : Nat) (Z : Int), k ≤ l.length ∧ s5 = .int .i64 k ∧ s4 = .int .i64 Z ∧ Hid (Z = 45 + data.length + entsSize (l.take k)) ∧ 0 ≤ Z ∧ Z ≤ 65536 ∧ W = wr) (fun _ s5 _ => l.length - (intOf s5).toNat)
  case atStart => exact ⟨0, 45 + data.length, Nat.zero_le _, rfl, rfl, Lib.hid (by simp [entsSize]), by omega, by have := HG3.out; omega, rfl⟩
  case round =>
    obtain ⟨k, Z, hk, rfl, rfl, HZ, z0, z1, rfl⟩ := hrel
    by_cases hlt : k < l.length
    · obtain ⟨cs, hr, he⟩ := HE.out
      obtain ⟨ab, ao, ac, hv, hn, hc, -, hab, hcell⟩ := hr.form (by omega)
      injection hv with hv1 _ hv3
      subst hv1 hv3
      obtain ⟨ev, a0, a1, a2, -, -, hy⟩ := he.at k hlt
      have x2 := hcell _ _ a2
      rw [← Nat.add_assoc] at x2
      obtain ⟨AE, cE, rfl⟩ := hy.slice
      have hlt2 : (k : Int) < (l.length : Int) := by omega
      have hsn : l.take (k + 1) = l.take k ++ [l[k]] := by rw [List.take_succ_eq_append_getElem hlt]
      have hen := entsSize_snoc (l.take k) l[k]
      rw [← hsn] at hen
      have hts := entsSize_take_le l (k + 1)
      unfold maxLen at hc
      obtain ⟨C, hC⟩ : ∃ C : Int, C = l[k].cmd.length := ⟨_, rfl⟩
      have c0 : 0 ≤ C := by omega
      have c1 : Z + 9 + C ≤ 65536 := by have := HG3.out; have := HZ.out; omega
      have c2 : C ≤ 65536 := by omega
      have HC := Lib.hid (And.intro hC hen)
      generalize l[k].cmd.length = cl at *
      clear hen hsn hcell a0 a1 a2 hr he hy hts
      go_wp2_with fail
      go_roundw
      case rel => exact ⟨k + 1, Z + 9 + C, hlt, by go_num, by rw [HC.out.1], Lib.hid (by have := HC.out; have := HZ.out; omega), by omega, by omega, by trivial⟩
      case measure => simp [intOf]; omega
    · obtain rfl : k = l.length := by omega
      have hz := HZ.out
      rw [List.take_length] at hz
      have hbig : ¬ (65536 < Z) := by omega
      clear hz
      go_wp2_with fail
      refine HFit.out.mono ?_
      rintro _ w2 ⟨rfl, hb2⟩
      obtain ⟨⟨d0, d1, d2, d3, d4, d5, d6, d7, d8, d9, d10⟩, -⟩ := cells11 (blk_keep hb2 Hblk.out)
      have HB2 := Lib.hid (below_then HB.out hb2)
      have HM2 := Lib.hid (blk_keep hb2 Hblk.out)
      clear hb2
      go_wp2_with fail
      have hz3 : (w2.alloc (.cells #[.slice none 0 0, .int .i64 0] 109)).heap.size = w2.heap.size + 1 := by simp
      have h3 : WrS 109 (· < w2.heap.size) w2.heap.size (w2.alloc (.cells #[.slice none 0 0, .int .i64 0] 109)) w2.heap.size [] 0 := wrS_new 109 w2
      have b3 := below_then HB2.out (box_below w2 (.cells #[.slice none 0 0, .int .i64 0] 109))
      have eM := blk_keep (box_below w2 (.cells #[.slice none 0 0, .int .i64 0] 109)) HM2.out
      obtain ⟨W3, hW3⟩ : ∃ W, w2.alloc (.cells #[.slice none 0 0, .int .i64 0] 109) = W := ⟨_, rfl⟩
      rw [hW3] at hz3 h3 b3 eM ⊢
      have sM : w.heap.size < w2.heap.size := (Array.getElem?_eq_some_iff.1 HM2.out).1
      have hWr : Wr 109 W3 (· < w2.heap.size) w2.heap.size w2.heap.size W3 [] := ⟨h3, Same.refl _ _, Below.refl _ _, fun b hb => by rw [hz3]; omega, by omega⟩
      have HW := Lib.hid hWr
      have HB3 := Lib.hid b3
      have HK := Lib.hid (cells11 eM).1
      have HsM := Lib.hid sM
      clear hW3 hz3 h3 b3 eM sM hWr d0 d1 d2 d3 d4 d5 d6 d7 d8 d9 d10
      refine (rwr_num1 HW.out (202) (by omega) (by omega) (by simp [])).mono ?_
      rintro _ v10 ⟨⟨u0, rfl⟩, hw⟩
      have HW := Lib.hid hw
      have m0 := hw.cell HsM.out HK.out.1
      clear hw
      go_wp2_with fail
      refine (rwr_num1 HW.out (k0) (by omega) (by omega) (by simp [be_length])).mono ?_
      rintro _ v11 ⟨⟨u1, rfl⟩, hw⟩
      have HW := Lib.hid hw
      have m1 := hw.cell HsM.out HK.out.2.1
      clear hw
      go_wp2_with fail
      refine (rwr_num1 HW.out (k1) (by omega) (by omega) (by simp [be_length])).mono ?_
      rintro _ v12 ⟨⟨u2, rfl⟩, hw⟩
      have HW := Lib.hid hw
      have m2 := hw.cell HsM.out HK.out.2.2.1
      clear hw
      go_wp2_with fail
      refine (rwr_num1 HW.out (k2) (by omega) (by omega) (by simp [be_length])).mono ?_
      rintro _ v13 ⟨⟨u3, rfl⟩, hw⟩
      have HW := Lib.hid hw
      clear hw
      go_wp2_with fail
      refine (rwr_num1 HW.out (1) (by omega) (by omega) (by simp [be_length])).mono ?_
      rintro _ v14 ⟨⟨u4, rfl⟩, hw⟩
      have HW := Lib.hid hw
      have m3 := hw.cell HsM.out HK.out.2.2.2.1
      clear hw
      go_wp2_with fail
      refine (rwr_num6 HW.out (k3) (by omega) (by omega) (by simp [be_length])).mono ?_
      rintro _ v15 ⟨⟨u5, rfl⟩, hw⟩
      have HW := Lib.hid hw
      have m4 := hw.cell HsM.out HK.out.2.2.2.2.1
      clear hw
      go_wp2_with fail
      refine (rwr_num6 HW.out (k4) (by omega) (by omega) (by simp [be_length])).mono ?_
      rintro _ v16 ⟨⟨u6, rfl⟩, hw⟩
      have HW := Lib.hid hw
      have m5 := hw.cell HsM.out HK.out.2.2.2.2.2.1
      clear hw
      go_wp2_with fail
      refine (rwr_num6 HW.out (k5) (by omega) (by omega) (by simp [be_length])).mono ?_
      rintro _ v17 ⟨⟨u7, rfl⟩, hw⟩
      have HW := Lib.hid hw
      have m6 := hw.cell HsM.out HK.out.2.2.2.2.2.2.1
      clear hw
      go_wp2_with fail
      refine (rwr_num6 HW.out (k6) (by omega) (by omega) (by simp [be_length])).mono ?_
      rintro _ v18 ⟨⟨u8, rfl⟩, hw⟩
      have HW := Lib.hid hw
      have m7 := hw.cell HsM.out HK.out.2.2.2.2.2.2.2.1
      clear hw
      go_wp2_with fail
      refine (rwr_num6 HW.out (k7) (by omega) (by omega) (by simp [be_length])).mono ?_
      rintro _ v19 ⟨⟨u9, rfl⟩, hw⟩
      have HW := Lib.hid hw
      have m9 := hw.cell HsM.out HK.out.2.2.2.2.2.2.2.2.2.1
      clear hw
      go_wp2_with fail
      refine (rwr_num2 HW.out l.length (by omega) (by have := HG.out; omega) (by simp [be_length])).mono ?_
      rintro _ w21 ⟨⟨v21, rfl⟩, hw⟩
      have hhead : Wr 109 W3 (· < w2.heap.size) w2.heap.size w2.heap.size w21 (encHead ⟨k0, k1, k2, k3, k4, k5, k6, k7, true, l, data⟩) := by simpa [encHead, List.append_assoc] using hw
      have HW := Lib.hid hhead
      clear hw hhead
      have hEm : Ents (· < w2.heap.size) W3 (.slice A l.length cA) l := (HLow.out.1.mono (T := (· < w2.heap.size)) fun b hlt _ => by have := HB2.out.size; omega).keep HB3.out
      have HEm := Lib.hid hEm
      clear hEm
      go_wp2_with fail
      go_loopw [8] (fun s8 wr => ∃ k : Nat, k ≤ l.length ∧ s8 = .int .i64 k ∧ Hid (Wr 109 W3 (· < w2.heap.size) w2.heap.size w2.heap.size wr (encHead ⟨k0, k1, k2, k3, k4, k5, k6, k7, true, l, data⟩ ++ encEs (l.take k)))) (fun s8 _ => l.length - (intOf s8).toNat)
      case atStart => exact ⟨0, Nat.zero_le _, rfl, Lib.hid (by simpa [encEs] using HW.out)⟩
      case round =>
        clear HW
        obtain ⟨k, hk, rfl, HW⟩ := hrel
        have m9 := HW.out.cell HsM.out HK.out.2.2.2.2.2.2.2.2.2.1
        by_cases hlt : k < l.length
        · obtain ⟨cs, hr, he⟩ := HEm.out.keepS HW.out.same
          obtain ⟨ab, ao, ac, hv, hn, hc, -, hab, hcell⟩ := hr.form (by omega)
          injection hv with hv1 _ hv3
          subst hv1 hv3
          obtain ⟨ev, x0, x1, x2, -, -, hy⟩ := he.at k hlt
          have x0 := hcell _ _ x0
          have x1 := hcell _ _ x1
          have x2 := hcell _ _ x2
          rw [← Nat.add_assoc] at x1 x2
          obtain ⟨AE, cE, rfl⟩ := hy.slice
          have hlt2 : (k : Int) < (l.length : Int) := by omega
          have hsn : l.take (k + 1) = l.take k ++ [l[k]] := by rw [List.take_succ_eq_append_getElem hlt]
          have henc := encEs_snoc (l.take k) l[k]
          rw [← hsn] at henc
          have hsz : (encHead ⟨k0, k1, k2, k3, k4, k5, k6, k7, true, l, data⟩ ++ encEs (l.take k)).length ≤ 90000000 := by
            rw [List.length_append, encHead_length, encEs_length]
            have h1 := entsSize_take_le l k
            have h2 := HG.out.2.2.2.1
            unfold msgSize at h2
            simp only at h2
            omega
          have hcl := rwr_put HW.out l[k] (.slice AE l[k].cmd.length cE) hy (HG.out.1 _ (List.getElem_mem hlt)) hsz
          have HC := Lib.hid hcl
          have Henc := Lib.hid henc
          unfold maxLen at hc
          clear hsn henc hsz hcl hy he hr hcell
          go_wp2_with fail
          refine HC.out.mono ?_
          rintro _ w22 ⟨⟨v22, rfl⟩, hw⟩
          have hw2 : Hid (Wr 109 W3 (· < w2.heap.size) w2.heap.size w2.heap.size w22 (encHead ⟨k0, k1, k2, k3, k4, k5, k6, k7, true, l, data⟩ ++ encEs (l.take (k + 1)))) := Lib.hid (by rw [Henc.out, ← List.append_assoc]; exact hw)
          clear hw
          go_wp2_with fail
          go_roundw
          case rel => exact ⟨k + 1, hlt, by go_num, hw2⟩
          case measure => simp [intOf]; omega
        · obtain rfl : k = l.length := by omega
          have hW := HW.out
          rw [List.take_length] at hW
          have HW := Lib.hid hW
          have m10 := hW.cell HsM.out HK.out.2.2.2.2.2.2.2.2.2.2
          clear hW
          go_wp2_with fail
          have hD3 : Bytes (· < w2.heap.size) W3 (.slice B data.length cB) data := (HLow.out.2.mono (T := (· < w2.heap.size)) fun b hlt _ => by have := HB2.out.size; omega).keep HB3.out
          have hll : (encHead ⟨k0, k1, k2, k3, k4, k5, k6, k7, true, l, data⟩ ++ encEs l).length ≤ 70000 := by
            rw [List.length_append, encHead_length, encEs_length]
            have h2 := HG.out.2.2.2.1
            unfold msgSize at h2
            simp only at h2
            omega
          refine (rwr_bytes4 HW.out (.slice B data.length cB) data (hD3.keepS HW.out.same) (by omega) HG.out.2.2.1).mono ?_
          rintro _ w23 ⟨⟨v23, rfl⟩, hw⟩
          have hw2 : Wr 109 W3 (· < w2.heap.size) w2.heap.size w2.heap.size w23 (encM ⟨k0, k1, k2, k3, k4, k5, k6, k7, true, l, data⟩) := hw
          have HW := Lib.hid hw2
          obtain ⟨-, vb, hgb, hgo⟩ := hw2.at_
          obtain ⟨gb0, gb1, -, -⟩ := cells2 hgb
          have hgby : Bytes (w2.heap.size ≤ ·) w23 vb (encM ⟨k0, k1, k2, k3, k4, k5, k6, k7, true, l, data⟩) := RowAt.of_own hgo
          have hsum := rsum_any vb _ w23 hgby
          have hml : (encM ⟨k0, k1, k2, k3, k4, k5, k6, k7, true, l, data⟩).length ≤ 70000 := by have := HG.out.2.2.2; omega
          have hcl := crcSum_lt (encM ⟨k0, k1, k2, k3, k4, k5, k6, k7, true, l, data⟩)
          have HML := Lib.hid hml
          have HSUM := Lib.hid hsum
          obtain ⟨C, hC⟩ : ∃ C, C = crcSum (encM ⟨k0, k1, k2, k3, k4, k5, k6, k7, true, l, data⟩) := ⟨_, rfl⟩
          rw [← hC] at HSUM hcl
          have HCC := Lib.hid hC
          obtain ⟨AVB, cVB, rfl⟩ := hgby.slice
          clear hw hw2 hD3 hll m10 hgb hgo hgby hsum hml hC
          go_wp2_with (go_at_call 72; refine HSUM.out.mono ?_; rintro _ _ ⟨rfl, rfl⟩)
          refine (rwr_num4 HW.out C (by omega) (by omega) (by have := HML.out; omega)).mono ?_
          rintro _ w25 ⟨⟨v25, rfl⟩, hw⟩
          rw [Int.toNat_natCast] at hw
          have hw2 : Wr 109 W3 (· < w2.heap.size) w2.heap.size w2.heap.size w25 M := by rw [HM.out, ← HCC.out]; exact hw
          have hml : M.length ≤ 80000 := by rw [HM.out, List.length_append, be_length]; have := HML.out; omega
          have HW := Lib.hid hw2
          have HMLL := Lib.hid hml
          clear hw hw2 hml gb0 gb1
          go_wp2_with fail
          refine (rwr_end HW.out (by have := HMLL.out; omega)).mono ?_
          rintro _ w26 ⟨vr, rfl, hvr, hb⟩
          obtain ⟨AR, cR, rfl⟩ := (RowAt.of_own hvr).slice
          have hbw : Below w.heap.size w w25 := HB3.out.trans (HW.out.bel.mono HB2.out.size)
          have hyr : Bytes (w.heap.size ≤ ·) w26 (.slice AR M.length cR) M := RowAt.mono (RowAt.of_own hvr) fun b _ h => Nat.le_trans hbw.size h
          have HYR := Lib.hid hyr
          have HBR := Lib.hid (below_then hbw hb)
          clear hvr hb hbw hyr
          go_wp2_with fail
          go_ret2
          exact ⟨_, rfl, HYR.out, HBR.out⟩

set_option maxRecDepth 100000 in
set_option maxHeartbeats 8000000 in
theorem qpackMsg_false {S0 : Nat → Prop} (m : Msg) (vl vd : Value) (w : World) (hm : MsgAt S0 w m vl vd) (hL : longB m = false) (hO : msgOK m = true) (hy : m.yes = false) :
    Calls Try.prog 34 #[.agg (msgCells m vl vd).toArray] w fun e w' => ∃ v, e = .returned (.tuple #[v, .int .i64 0]) ∧ Bytes (w.heap.size ≤ ·) w' v (encM m ++ be 4 (crcSum (encM m))) ∧ Below w.heap.size w w' := by
  obtain ⟨f3, f4, f5, f6, f7, f0, f1, f2, fl⟩ := msgOK_facts hO
  obtain ⟨g1, g2, g3⟩ := longB_facts hL
  have g3' := g3
  have hlen := encM_length m
  obtain ⟨M, hM⟩ : ∃ M, M = encM m ++ be 4 (crcSum (encM m)) := ⟨_, rfl⟩
  rw [← hM]
  have HM := Lib.hid hM
  have hb0 := box_below w (.cells (msgCells m vl vd).toArray 65)
  have hblk := blk_new w (.cells (msgCells m vl vd).toArray 65)
  have hfit := fun W (hb : Below w.heap.size w W) => qrightMsg_any m vl vd W (hm.keep hb)
  rw [hO] at hfit
  obtain ⟨hE, hD, -⟩ := hm
  obtain ⟨k0, k1, k2, k3, k4, k5, k6, k7, yes, l, data⟩ := m
  unfold msgSize at g3
  simp only [msgCells] at hE hD hb0 hblk hfit g1 g2 g3 hy f3 f4 f5 f6 f7 f0 f1 f2 fl ⊢
  subst hy
  obtain ⟨A, cA, rfl⟩ := hE.slice
  obtain ⟨B, cB, rfl⟩ := hD.slice
  obtain ⟨W, hW⟩ : ∃ W, w.alloc (.cells #[.int .i64 k0, .int .i64 k1, .int .i64 k2, .int .i64 k3, .int .i64 k4, .int .i64 k5, .int .i64 k6, .int .i64 k7, .bool false, .slice A l.length cA, .slice B data.length cB] 65) = W := ⟨_, rfl⟩
  have HE : Hid (Ents S0 W (.slice A l.length cA) l) := Lib.hid (by rw [← hW]; exact hE.keep hb0)
  have HB : Hid (Below w.heap.size w W) := Lib.hid (by rw [← hW]; exact hb0)
  have hblk2 : W.heap[w.heap.size]? = some (.cells #[.int .i64 k0, .int .i64 k1, .int .i64 k2, .int .i64 k3, .int .i64 k4, .int .i64 k5, .int .i64 k6, .int .i64 k7, .bool false, .slice A l.length cA, .slice B data.length cB] 65 (0, 0)) := by rw [← hW]; exact hblk
  have HG := Lib.hid (And.intro fl (And.intro g1 (And.intro g2 (And.intro g3' hlen))))
  have HBD : Hid (Bytes S0 W (.slice B data.length cB) data) := Lib.hid (by rw [← hW]; exact hD.keep hb0)
  have Hblk := Lib.hid hblk2
  have HLow := Lib.hid (And.intro hE hD)
  obtain ⟨⟨d0, d1, d2, d3, d4, d5, d6, d7, d8, d9, d10⟩, -⟩ := cells11 hblk2
  have HFit := Lib.hid (hfit W HB.out)
  have HG3 := Lib.hid g3
  have h1' : ¬ ((4096 : Int) < l.length) := by omega
  obtain ⟨D, hD2⟩ : ∃ D : Int, D = data.length := ⟨_, rfl⟩
  have h2' : ¬ (65536 < D) := by omega
  have hD0 : 0 ≤ D := by omega
  clear hE hD hb0 hblk hblk2 hL hO hfit g1 g2 g3 g3' hM fl hlen
  go_enter Try.func34, Try.ntmps34
  go_wp2_with fail
  clear hW
  go_loopw [4, 5] (fun s4 s5 wr => ∃ (k : Nat) (Z : Int), k ≤ l.length ∧ s5 = .int .i64 k ∧ s4 = .int .i64 Z ∧ Hid (Z = 45 + data.length + entsSize (l.take k)) ∧ 0 ≤ Z ∧ Z ≤ 65536 ∧ W = wr) (fun _ s5 _ => l.length - (intOf s5).toNat)
  case atStart => exact ⟨0, 45 + data.length, Nat.zero_le _, rfl, rfl, Lib.hid (by simp [entsSize]), by omega, by have := HG3.out; omega, rfl⟩
  case round =>
    obtain ⟨k, Z, hk, rfl, rfl, HZ, z0, z1, rfl⟩ := hrel
    by_cases hlt : k < l.length
    · obtain ⟨cs, hr, he⟩ := HE.out
      obtain ⟨ab, ao, ac, hv, hn, hc, -, hab, hcell⟩ := hr.form (by omega)
      injection hv with hv1 _ hv3
      subst hv1 hv3
      obtain ⟨ev, a0, a1, a2, -, -, hy⟩ := he.at k hlt
      have x2 := hcell _ _ a2
      rw [← Nat.add_assoc] at x2
      obtain ⟨AE, cE, rfl⟩ := hy.slice
      have hlt2 : (k : Int) < (l.length : Int) := by omega
      have hsn : l.take (k + 1) = l.take k ++ [l[k]] := by rw [List.take_succ_eq_append_getElem hlt]
      have hen := entsSize_snoc (l.take k) l[k]
      rw [← hsn] at hen
      have hts := entsSize_take_le l (k + 1)
      unfold maxLen at hc
      obtain ⟨C, hC⟩ : ∃ C : Int, C = l[k].cmd.length := ⟨_, rfl⟩
      have c0 : 0 ≤ C := by omega
      have c1 : Z + 9 + C ≤ 65536 := by have := HG3.out; have := HZ.out; omega
      have c2 : C ≤ 65536 := by omega
      have HC := Lib.hid (And.intro hC hen)
      generalize l[k].cmd.length = cl at *
      clear hen hsn hcell a0 a1 a2 hr he hy hts
      go_wp2_with fail
      go_roundw
      case rel => exact ⟨k + 1, Z + 9 + C, hlt, by go_num, by rw [HC.out.1], Lib.hid (by have := HC.out; have := HZ.out; omega), by omega, by omega, by trivial⟩
      case measure => simp [intOf]; omega
    · obtain rfl : k = l.length := by omega
      have hz := HZ.out
      rw [List.take_length] at hz
      have hbig : ¬ (65536 < Z) := by omega
      clear hz
      go_wp2_with fail
      refine HFit.out.mono ?_
      rintro _ w2 ⟨rfl, hb2⟩
      obtain ⟨⟨d0, d1, d2, d3, d4, d5, d6, d7, d8, d9, d10⟩, -⟩ := cells11 (blk_keep hb2 Hblk.out)
      have HB2 := Lib.hid (below_then HB.out hb2)
      have HM2 := Lib.hid (blk_keep hb2 Hblk.out)
      clear hb2
      go_wp2_with fail
      have hz3 : (w2.alloc (.cells #[.slice none 0 0, .int .i64 0] 109)).heap.size = w2.heap.size + 1 := by simp
      have h3 : WrS 109 (· < w2.heap.size) w2.heap.size (w2.alloc (.cells #[.slice none 0 0, .int .i64 0] 109)) w2.heap.size [] 0 := wrS_new 109 w2
      have b3 := below_then HB2.out (box_below w2 (.cells #[.slice none 0 0, .int .i64 0] 109))
      have eM := blk_keep (box_below w2 (.cells #[.slice none 0 0, .int .i64 0] 109)) HM2.out
      obtain ⟨W3, hW3⟩ : ∃ W, w2.alloc (.cells #[.slice none 0 0, .int .i64 0] 109) = W := ⟨_, rfl⟩
      rw [hW3] at hz3 h3 b3 eM ⊢
      have sM : w.heap.size < w2.heap.size := (Array.getElem?_eq_some_iff.1 HM2.out).1
      have hWr : Wr 109 W3 (· < w2.heap.size) w2.heap.size w2.heap.size W3 [] := ⟨h3, Same.refl _ _, Below.refl _ _, fun b hb => by rw [hz3]; omega, by omega⟩
      have HW := Lib.hid hWr
      have HB3 := Lib.hid b3
      have HK := Lib.hid (cells11 eM).1
      have HsM := Lib.hid sM
      clear hW3 hz3 h3 b3 eM sM hWr d0 d1 d2 d3 d4 d5 d6 d7 d8 d9 d10
      refine (rwr_num1 HW.out (202) (by omega) (by omega) (by simp [])).mono ?_
      rintro _ v10 ⟨⟨u0, rfl⟩, hw⟩
      have HW := Lib.hid hw
      have m0 := hw.cell HsM.out HK.out.1
      clear hw
      go_wp2_with fail
      refine (rwr_num1 HW.out (k0) (by omega) (by omega) (by simp [be_length])).mono ?_
      rintro _ v11 ⟨⟨u1, rfl⟩, hw⟩
      have HW := Lib.hid hw
      have m1 := hw.cell HsM.out HK.out.2.1
      clear hw
      go_wp2_with fail
      refine (rwr_num1 HW.out (k1) (by omega) (by omega) (by simp [be_length])).mono ?_
      rintro _ v12 ⟨⟨u2, rfl⟩, hw⟩
      have HW := Lib.hid hw
      have m2 := hw.cell HsM.out HK.out.2.2.1
      clear hw
      go_wp2_with fail
      refine (rwr_num1 HW.out (k2) (by omega) (by omega) (by simp [be_length])).mono ?_
      rintro _ v13 ⟨⟨u3, rfl⟩, hw⟩
      have HW := Lib.hid hw
      clear hw
      go_wp2_with fail
      refine (rwr_num1 HW.out (0) (by omega) (by omega) (by simp [be_length])).mono ?_
      rintro _ v14 ⟨⟨u4, rfl⟩, hw⟩
      have HW := Lib.hid hw
      have m3 := hw.cell HsM.out HK.out.2.2.2.1
      clear hw
      go_wp2_with fail
      refine (rwr_num6 HW.out (k3) (by omega) (by omega) (by simp [be_length])).mono ?_
      rintro _ v15 ⟨⟨u5, rfl⟩, hw⟩
      have HW := Lib.hid hw
      have m4 := hw.cell HsM.out HK.out.2.2.2.2.1
      clear hw
      go_wp2_with fail
      refine (rwr_num6 HW.out (k4) (by omega) (by omega) (by simp [be_length])).mono ?_
      rintro _ v16 ⟨⟨u6, rfl⟩, hw⟩
      have HW := Lib.hid hw
      have m5 := hw.cell HsM.out HK.out.2.2.2.2.2.1
      clear hw
      go_wp2_with fail
      refine (rwr_num6 HW.out (k5) (by omega) (by omega) (by simp [be_length])).mono ?_
      rintro _ v17 ⟨⟨u7, rfl⟩, hw⟩
      have HW := Lib.hid hw
      have m6 := hw.cell HsM.out HK.out.2.2.2.2.2.2.1
      clear hw
      go_wp2_with fail
      refine (rwr_num6 HW.out (k6) (by omega) (by omega) (by simp [be_length])).mono ?_
      rintro _ v18 ⟨⟨u8, rfl⟩, hw⟩
      have HW := Lib.hid hw
      have m7 := hw.cell HsM.out HK.out.2.2.2.2.2.2.2.1
      clear hw
      go_wp2_with fail
      refine (rwr_num6 HW.out (k7) (by omega) (by omega) (by simp [be_length])).mono ?_
      rintro _ v19 ⟨⟨u9, rfl⟩, hw⟩
      have HW := Lib.hid hw
      have m9 := hw.cell HsM.out HK.out.2.2.2.2.2.2.2.2.2.1
      clear hw
      go_wp2_with fail
      refine (rwr_num2 HW.out l.length (by omega) (by have := HG.out; omega) (by simp [be_length])).mono ?_
      rintro _ w21 ⟨⟨v21, rfl⟩, hw⟩
      have hhead : Wr 109 W3 (· < w2.heap.size) w2.heap.size w2.heap.size w21 (encHead ⟨k0, k1, k2, k3, k4, k5, k6, k7, false, l, data⟩) := by simpa [encHead, List.append_assoc] using hw
      have HW := Lib.hid hhead
      clear hw hhead
      have hEm : Ents (· < w2.heap.size) W3 (.slice A l.length cA) l := (HLow.out.1.mono (T := (· < w2.heap.size)) fun b hlt _ => by have := HB2.out.size; omega).keep HB3.out
      have HEm := Lib.hid hEm
      clear hEm
      go_wp2_with fail
      go_loopw [8] (fun s8 wr => ∃ k : Nat, k ≤ l.length ∧ s8 = .int .i64 k ∧ Hid (Wr 109 W3 (· < w2.heap.size) w2.heap.size w2.heap.size wr (encHead ⟨k0, k1, k2, k3, k4, k5, k6, k7, false, l, data⟩ ++ encEs (l.take k)))) (fun s8 _ => l.length - (intOf s8).toNat)
      case atStart => exact ⟨0, Nat.zero_le _, rfl, Lib.hid (by simpa [encEs] using HW.out)⟩
      case round =>
        clear HW
        obtain ⟨k, hk, rfl, HW⟩ := hrel
        have m9 := HW.out.cell HsM.out HK.out.2.2.2.2.2.2.2.2.2.1
        by_cases hlt : k < l.length
        · obtain ⟨cs, hr, he⟩ := HEm.out.keepS HW.out.same
          obtain ⟨ab, ao, ac, hv, hn, hc, -, hab, hcell⟩ := hr.form (by omega)
          injection hv with hv1 _ hv3
          subst hv1 hv3
          obtain ⟨ev, x0, x1, x2, -, -, hy⟩ := he.at k hlt
          have x0 := hcell _ _ x0
          have x1 := hcell _ _ x1
          have x2 := hcell _ _ x2
          rw [← Nat.add_assoc] at x1 x2
          obtain ⟨AE, cE, rfl⟩ := hy.slice
          have hlt2 : (k : Int) < (l.length : Int) := by omega
          have hsn : l.take (k + 1) = l.take k ++ [l[k]] := by rw [List.take_succ_eq_append_getElem hlt]
          have henc := encEs_snoc (l.take k) l[k]
          rw [← hsn] at henc
          have hsz : (encHead ⟨k0, k1, k2, k3, k4, k5, k6, k7, false, l, data⟩ ++ encEs (l.take k)).length ≤ 90000000 := by
            rw [List.length_append, encHead_length, encEs_length]
            have h1 := entsSize_take_le l k
            have h2 := HG.out.2.2.2.1
            unfold msgSize at h2
            simp only at h2
            omega
          have hcl := rwr_put HW.out l[k] (.slice AE l[k].cmd.length cE) hy (HG.out.1 _ (List.getElem_mem hlt)) hsz
          have HC := Lib.hid hcl
          have Henc := Lib.hid henc
          unfold maxLen at hc
          clear hsn henc hsz hcl hy he hr hcell
          go_wp2_with fail
          refine HC.out.mono ?_
          rintro _ w22 ⟨⟨v22, rfl⟩, hw⟩
          have hw2 : Hid (Wr 109 W3 (· < w2.heap.size) w2.heap.size w2.heap.size w22 (encHead ⟨k0, k1, k2, k3, k4, k5, k6, k7, false, l, data⟩ ++ encEs (l.take (k + 1)))) := Lib.hid (by rw [Henc.out, ← List.append_assoc]; exact hw)
          clear hw
          go_wp2_with fail
          go_roundw
          case rel => exact ⟨k + 1, hlt, by go_num, hw2⟩
          case measure => simp [intOf]; omega
        · obtain rfl : k = l.length := by omega
          have hW := HW.out
          rw [List.take_length] at hW
          have HW := Lib.hid hW
          have m10 := hW.cell HsM.out HK.out.2.2.2.2.2.2.2.2.2.2
          clear hW
          go_wp2_with fail
          have hD3 : Bytes (· < w2.heap.size) W3 (.slice B data.length cB) data := (HLow.out.2.mono (T := (· < w2.heap.size)) fun b hlt _ => by have := HB2.out.size; omega).keep HB3.out
          have hll : (encHead ⟨k0, k1, k2, k3, k4, k5, k6, k7, false, l, data⟩ ++ encEs l).length ≤ 70000 := by
            rw [List.length_append, encHead_length, encEs_length]
            have h2 := HG.out.2.2.2.1
            unfold msgSize at h2
            simp only at h2
            omega
          refine (rwr_bytes4 HW.out (.slice B data.length cB) data (hD3.keepS HW.out.same) (by omega) HG.out.2.2.1).mono ?_
          rintro _ w23 ⟨⟨v23, rfl⟩, hw⟩
          have hw2 : Wr 109 W3 (· < w2.heap.size) w2.heap.size w2.heap.size w23 (encM ⟨k0, k1, k2, k3, k4, k5, k6, k7, false, l, data⟩) := hw
          have HW := Lib.hid hw2
          obtain ⟨-, vb, hgb, hgo⟩ := hw2.at_
          obtain ⟨gb0, gb1, -, -⟩ := cells2 hgb
          have hgby : Bytes (w2.heap.size ≤ ·) w23 vb (encM ⟨k0, k1, k2, k3, k4, k5, k6, k7, false, l, data⟩) := RowAt.of_own hgo
          have hsum := rsum_any vb _ w23 hgby
          have hml : (encM ⟨k0, k1, k2, k3, k4, k5, k6, k7, false, l, data⟩).length ≤ 70000 := by have := HG.out.2.2.2; omega
          have hcl := crcSum_lt (encM ⟨k0, k1, k2, k3, k4, k5, k6, k7, false, l, data⟩)
          have HML := Lib.hid hml
          have HSUM := Lib.hid hsum
          obtain ⟨C, hC⟩ : ∃ C, C = crcSum (encM ⟨k0, k1, k2, k3, k4, k5, k6, k7, false, l, data⟩) := ⟨_, rfl⟩
          rw [← hC] at HSUM hcl
          have HCC := Lib.hid hC
          obtain ⟨AVB, cVB, rfl⟩ := hgby.slice
          clear hw hw2 hD3 hll m10 hgb hgo hgby hsum hml hC
          go_wp2_with (go_at_call 72; refine HSUM.out.mono ?_; rintro _ _ ⟨rfl, rfl⟩)
          refine (rwr_num4 HW.out C (by omega) (by omega) (by have := HML.out; omega)).mono ?_
          rintro _ w25 ⟨⟨v25, rfl⟩, hw⟩
          rw [Int.toNat_natCast] at hw
          have hw2 : Wr 109 W3 (· < w2.heap.size) w2.heap.size w2.heap.size w25 M := by rw [HM.out, ← HCC.out]; exact hw
          have hml : M.length ≤ 80000 := by rw [HM.out, List.length_append, be_length]; have := HML.out; omega
          have HW := Lib.hid hw2
          have HMLL := Lib.hid hml
          clear hw hw2 hml gb0 gb1
          go_wp2_with fail
          refine (rwr_end HW.out (by have := HMLL.out; omega)).mono ?_
          rintro _ w26 ⟨vr, rfl, hvr, hb⟩
          obtain ⟨AR, cR, rfl⟩ := (RowAt.of_own hvr).slice
          have hbw : Below w.heap.size w w25 := HB3.out.trans (HW.out.bel.mono HB2.out.size)
          have hyr : Bytes (w.heap.size ≤ ·) w26 (.slice AR M.length cR) M := RowAt.mono (RowAt.of_own hvr) fun b _ h => Nat.le_trans hbw.size h
          have HYR := Lib.hid hyr
          have HBR := Lib.hid (below_then hbw hb)
          clear hvr hb hbw hyr
          go_wp2_with fail
          go_ret2
          exact ⟨_, rfl, HYR.out, HBR.out⟩

theorem qpackMsg_any {S0 : Nat → Prop} (m : Msg) (vl vd : Value) (w : World) (hm : MsgAt S0 w m vl vd) (hf : Fine m) :
    Calls Try.prog 34 #[.agg (msgCells m vl vd).toArray] w fun e w' => ∃ v, e = .returned (.tuple #[v, .int .i64 (packM m).2]) ∧ Bytes (w.heap.size ≤ ·) w' v (packM m).1 ∧ Below w.heap.size w w' := by
  unfold packM
  cases hL : longB m with
  | true =>
    rw [if_pos rfl]
    exact (qpackMsg_long m vl vd w hm hf hL).mono (by rintro _ w' ⟨rfl, hb⟩; exact ⟨_, rfl, ⟨rfl, .inl ⟨rfl, .inl rfl⟩⟩, hb⟩)
  | false =>
    rw [if_neg (by simp)]
    cases hO : msgOK m with
    | true =>
      rw [if_pos rfl]
      cases hy : m.yes with
      | true => exact qpackMsg_true m vl vd w hm hL hO hy
      | false => exact qpackMsg_false m vl vd w hm hL hO hy
    | false =>
      rw [if_neg (by simp)]
      exact (qpackMsg_no m vl vd w hm hL hO).mono (by rintro _ w' ⟨rfl, hb⟩; exact ⟨_, rfl, ⟨rfl, .inl ⟨rfl, .inl rfl⟩⟩, hb⟩)
end Go.Proofs.Ytoaoldhajpbenaa

namespace Go.Proofs.Ytoaoldhajpbenaa
open Go.RowKit

/-- A number of things, at most so many, each of a byte at least. -/
def rdCount (size most : Nat) (st : List UInt8 × Int) : Int × (List UInt8 × Int) :=
  if st.2 ≠ 0 then (0, st)
  else if st.1.length < size then (0, (st.1, 10))
  else if (most : Int) < (rdNum size st).1 then (0, (st.1, 3))
  else if ((rdNum size st).2.1.length : Int) < (rdNum size st).1 then (0, (st.1, 10))
  else ((rdNum size st).1, (rdNum size st).2)

set_option maxRecDepth 100000 in
set_option maxHeartbeats 2000000 in
theorem rcount_any (S : Nat → Prop) (g : Nat) (xs : List UInt8) (er : Int) (w : World) (h : RdAt 143 S w g xs er) :
    Calls Try.prog 75 #[.pointer (some ⟨g, 0, none⟩), .int .i64 2, .int .i64 4096] w fun e w' => e = .returned (.int .i64 (rdCount 2 4096 (xs, er)).1) ∧ RdAt 143 S w' g (rdCount 2 4096 (xs, er)).2.1 (rdCount 2 4096 (xs, er)).2.2 ∧ w.grownBy w' (some g) := by
  have hk := rok_any S g xs er w h
  have H := Lib.hid h
  by_cases he : er ≠ 0
  · have e : rdCount 2 4096 (xs, er) = (0, (xs, er)) := by unfold rdCount; rw [if_pos he]
    rw [e]
    have hb : (er == 0) = false := by simpa using he
    rw [hb] at hk
    have Hk := Lib.hid hk
    clear hk h he hb e
    go_enter Try.func75, Try.ntmps75
    go_wp2_with (go_at_call 98; refine Hk.out.mono ?_; rintro _ _ ⟨rfl, rfl⟩)
    go_ret
    exact ⟨rfl, H.out, grown_refl _ _⟩
  · obtain rfl : er = 0 := by omega
    have hn := rnum_any S g xs 0 2 w h (by omega) (by omega)
    have hlt := rdNum_lt 2 (xs, 0)
    obtain ⟨hSg, v, hblk, hby⟩ := h
    obtain ⟨c0, c1, f0, f1⟩ := cells2 hblk
    have hgs := block_lt c0
    have Hby := Lib.hid hby
    have Hk := Lib.hid hk
    obtain ⟨A, c, rfl⟩ := hby.slice
    by_cases hx : xs.length < 2
    · have e : rdCount 2 4096 (xs, 0) = (0, (xs, 10)) := by unfold rdCount; rw [if_neg (by simp), if_pos hx]
      rw [e]
      have e2 : rdNum 2 (xs, 0) = (0, (xs, 10)) := by unfold rdNum; rw [if_neg (by simp), if_pos hx]
      rw [e2] at hn
      have Hn := Lib.hid hn
      clear hk hn hblk hby e e2 he hlt
      go_enter Try.func75, Try.ntmps75
      go_wp2_with (go_at_call 98; refine Hk.out.mono ?_; rintro _ _ ⟨rfl, rfl⟩)
      refine Hn.out.mono ?_
      rintro _ w1 ⟨rfl, ⟨-, v1, hblk1, hby1⟩, hg1⟩
      obtain ⟨d0, d1, e0, e1⟩ := cells2 hblk1
      have Hblk1 := Lib.hid hblk1
      have Hg1 := Lib.hid hg1
      obtain ⟨A1, cc1, rfl⟩ := hby1.slice
      clear hblk1 hby1 hg1
      go_wp2_with fail
      go_ret
      refine ⟨rfl, ⟨hSg, _, blk_put Hblk1.out _, ?_⟩, grown_set Hg1.out _ _⟩
      exact (Hby.out.keepS (same_grownG Hg1.out hSg)).keepS ((Same.refl _ _).setCell hSg _)
    · obtain ⟨N, ys, e2⟩ : ∃ (N : Int) (ys : List UInt8), rdNum 2 (xs, 0) = (N, (ys, 0)) := by
        unfold rdNum; rw [if_neg (by simp), if_neg hx]; exact ⟨_, _, rfl⟩
      have e : rdCount 2 4096 (xs, 0) = if (4096 : Int) < N then (0, (xs, 3)) else if (ys.length : Int) < N then (0, (xs, 10)) else (N, (ys, 0)) := by
        unfold rdCount; rw [if_neg (by simp), if_neg hx, e2]; rfl
      rw [e]
      rw [e2] at hn hlt
      have n0 : 0 ≤ N := hlt.1
      have n1 : N < 65536 := by simpa using hlt.2
      have Hn := Lib.hid hn
      clear hk hn hblk hby e e2 he hlt
      by_cases q1 : (4096 : Int) < N
      · rw [if_pos q1]
        go_enter Try.func75, Try.ntmps75
        go_wp2_with (go_at_call 98; refine Hk.out.mono ?_; rintro _ _ ⟨rfl, rfl⟩)
        refine Hn.out.mono ?_
        rintro _ w1 ⟨rfl, ⟨-, v1, hblk1, hby1⟩, hg1⟩
        obtain ⟨d0, d1, e0, e1⟩ := cells2 hblk1
        have Hblk1 := Lib.hid hblk1
        have Hg1 := Lib.hid hg1
        obtain ⟨A1, cc1, rfl⟩ := hby1.slice
        clear hblk1 hby1 hg1
        go_wp2_with fail
        go_ret
        refine ⟨rfl, ⟨hSg, _, blk_put (blk_put1 Hblk1.out _) _, ?_⟩, grown_set (grown_set Hg1.out _ _) _ _⟩
        exact (Hby.out.keepS (same_grownG Hg1.out hSg)).keepS (((Same.refl _ _).setCell hSg _).setCell hSg _)
      · rw [if_neg q1]
        by_cases q2 : (ys.length : Int) < N
        · rw [if_pos q2]
          go_enter Try.func75, Try.ntmps75
          go_wp2_with (go_at_call 98; refine Hk.out.mono ?_; rintro _ _ ⟨rfl, rfl⟩)
          refine Hn.out.mono ?_
          rintro _ w1 ⟨rfl, ⟨-, v1, hblk1, hby1⟩, hg1⟩
          obtain ⟨d0, d1, e0, e1⟩ := cells2 hblk1
          have Hblk1 := Lib.hid hblk1
          have Hg1 := Lib.hid hg1
          obtain ⟨A1, cc1, rfl⟩ := hby1.slice
          clear hblk1 hby1 hg1
          go_wp2_with fail
          go_ret
          refine ⟨rfl, ⟨hSg, _, blk_put (blk_put1 Hblk1.out _) _, ?_⟩, grown_set (grown_set Hg1.out _ _) _ _⟩
          exact (Hby.out.keepS (same_grownG Hg1.out hSg)).keepS (((Same.refl _ _).setCell hSg _).setCell hSg _)
        · rw [if_neg q2]
          go_enter Try.func75, Try.ntmps75
          go_wp2_with (go_at_call 98; refine Hk.out.mono ?_; rintro _ _ ⟨rfl, rfl⟩)
          refine Hn.out.mono ?_
          rintro _ w1 ⟨rfl, hrd, hg1⟩
          have Hrd := Lib.hid hrd
          obtain ⟨-, v1, hblk1, hby1⟩ := hrd
          obtain ⟨d0, d1, e0, e1⟩ := cells2 hblk1
          have Hg1 := Lib.hid hg1
          obtain ⟨A1, cc1, rfl⟩ := hby1.slice
          clear hblk1 hby1 hg1
          go_wp2_with fail
          go_ret
          exact ⟨rfl, Hrd.out, Hg1.out⟩

set_option maxRecDepth 100000 in
set_option maxHeartbeats 2000000 in
theorem rrcount_any (S : Nat → Prop) (g : Nat) (xs : List UInt8) (er : Int) (w : World) (h : RdAt 133 S w g xs er) :
    Calls Try.prog 79 #[.pointer (some ⟨g, 0, none⟩), .int .i64 2, .int .i64 4096] w fun e w' => e = .returned (.int .i64 (rdCount 2 4096 (xs, er)).1) ∧ RdAt 133 S w' g (rdCount 2 4096 (xs, er)).2.1 (rdCount 2 4096 (xs, er)).2.2 ∧ w.grownBy w' (some g) := by
  have hn := rrnum_any S g xs er 2 w h (by omega) (by omega)
  have hlt := rdNum_lt 2 (xs, er)
  obtain ⟨hSg, v, hblk, hby⟩ := h
  obtain ⟨c0, c1, f0, f1⟩ := cells2 hblk
  have hgs := block_lt c0
  have Hby := Lib.hid hby
  obtain ⟨A, c, rfl⟩ := hby.slice
  by_cases he : er ≠ 0
  · have e : rdCount 2 4096 (xs, er) = (0, (xs, er)) := by unfold rdCount; rw [if_pos he]
    rw [e]
    have e2 : rdNum 2 (xs, er) = (0, (xs, er)) := by unfold rdNum; rw [if_pos he]
    rw [e2] at hn
    have Hn := Lib.hid hn
    have hb : (er == 0) = false := by simpa using he
    have hb2 : (er != 0) = true := by simpa using he
    clear hn hblk hby he e e2 hlt
    go_enter Try.func79, Try.ntmps79
    go_wp2_with fail
    refine Hn.out.mono ?_
    rintro _ w1 ⟨rfl, ⟨-, v1, hblk1, hby1⟩, hg1⟩
    obtain ⟨d0, d1, e0, e1⟩ := cells2 hblk1
    have Hblk1 := Lib.hid hblk1
    have Hg1 := Lib.hid hg1
    obtain ⟨A1, cc1, rfl⟩ := hby1.slice
    clear hblk1 hby1 hg1
    go_wp2_with fail
    go_ret
    refine ⟨rfl, ⟨hSg, _, blk_put Hblk1.out _, ?_⟩, grown_set Hg1.out _ _⟩
    exact (Hby.out.keepS (same_grownG Hg1.out hSg)).keepS ((Same.refl _ _).setCell hSg _)
  · obtain rfl : er = 0 := by omega
    by_cases hx : xs.length < 2
    · have e : rdCount 2 4096 (xs, 0) = (0, (xs, 10)) := by unfold rdCount; rw [if_neg (by simp), if_pos hx]
      rw [e]
      have e2 : rdNum 2 (xs, 0) = (0, (xs, 10)) := by unfold rdNum; rw [if_neg (by simp), if_pos hx]
      rw [e2] at hn
      have Hn := Lib.hid hn
      clear hn hblk hby e e2 he hlt
      go_enter Try.func79, Try.ntmps79
      go_wp2_with fail
      refine Hn.out.mono ?_
      rintro _ w1 ⟨rfl, ⟨-, v1, hblk1, hby1⟩, hg1⟩
      obtain ⟨d0, d1, e0, e1⟩ := cells2 hblk1
      have Hblk1 := Lib.hid hblk1
      have Hg1 := Lib.hid hg1
      obtain ⟨A1, cc1, rfl⟩ := hby1.slice
      clear hblk1 hby1 hg1
      go_wp2_with fail
      go_ret
      refine ⟨rfl, ⟨hSg, _, blk_put Hblk1.out _, ?_⟩, grown_set Hg1.out _ _⟩
      exact (Hby.out.keepS (same_grownG Hg1.out hSg)).keepS ((Same.refl _ _).setCell hSg _)
    · obtain ⟨N, ys, e2⟩ : ∃ (N : Int) (ys : List UInt8), rdNum 2 (xs, 0) = (N, (ys, 0)) := by
        unfold rdNum; rw [if_neg (by simp), if_neg hx]; exact ⟨_, _, rfl⟩
      have e : rdCount 2 4096 (xs, 0) = if (4096 : Int) < N then (0, (xs, 3)) else if (ys.length : Int) < N then (0, (xs, 10)) else (N, (ys, 0)) := by
        unfold rdCount; rw [if_neg (by simp), if_neg hx, e2]; rfl
      rw [e]
      rw [e2] at hn hlt
      have n0 : 0 ≤ N := hlt.1
      have n1 : N < 65536 := by simpa using hlt.2
      have Hn := Lib.hid hn
      clear hn hblk hby e e2 he hlt
      by_cases q1 : (4096 : Int) < N
      · rw [if_pos q1]
        go_enter Try.func79, Try.ntmps79
        go_wp2_with fail
        refine Hn.out.mono ?_
        rintro _ w1 ⟨rfl, ⟨-, v1, hblk1, hby1⟩, hg1⟩
        obtain ⟨d0, d1, e0, e1⟩ := cells2 hblk1
        have Hblk1 := Lib.hid hblk1
        have Hg1 := Lib.hid hg1
        obtain ⟨A1, cc1, rfl⟩ := hby1.slice
        clear hblk1 hby1 hg1
        go_wp2_with fail
        go_ret
        refine ⟨rfl, ⟨hSg, _, blk_put (blk_put1 Hblk1.out _) _, ?_⟩, grown_set (grown_set Hg1.out _ _) _ _⟩
        exact (Hby.out.keepS (same_grownG Hg1.out hSg)).keepS (((Same.refl _ _).setCell hSg _).setCell hSg _)
      · rw [if_neg q1]
        by_cases q2 : (ys.length : Int) < N
        · rw [if_pos q2]
          go_enter Try.func79, Try.ntmps79
          go_wp2_with fail
          refine Hn.out.mono ?_
          rintro _ w1 ⟨rfl, ⟨-, v1, hblk1, hby1⟩, hg1⟩
          obtain ⟨d0, d1, e0, e1⟩ := cells2 hblk1
          have Hblk1 := Lib.hid hblk1
          have Hg1 := Lib.hid hg1
          obtain ⟨A1, cc1, rfl⟩ := hby1.slice
          clear hblk1 hby1 hg1
          go_wp2_with fail
          go_ret
          refine ⟨rfl, ⟨hSg, _, blk_put (blk_put1 Hblk1.out _) _, ?_⟩, grown_set (grown_set Hg1.out _ _) _ _⟩
          exact (Hby.out.keepS (same_grownG Hg1.out hSg)).keepS (((Same.refl _ _).setCell hSg _).setCell hSg _)
        · rw [if_neg q2]
          go_enter Try.func79, Try.ntmps79
          go_wp2_with fail
          refine Hn.out.mono ?_
          rintro _ w1 ⟨rfl, hrd, hg1⟩
          have Hrd := Lib.hid hrd
          obtain ⟨-, v1, hblk1, hby1⟩ := hrd
          obtain ⟨d0, d1, e0, e1⟩ := cells2 hblk1
          have Hg1 := Lib.hid hg1
          obtain ⟨A1, cc1, rfl⟩ := hby1.slice
          clear hblk1 hby1 hg1
          go_wp2_with fail
          go_ret
          exact ⟨rfl, Hrd.out, Hg1.out⟩
end Go.Proofs.Ytoaoldhajpbenaa

namespace Go.Proofs.Ytoaoldhajpbenaa
open Go.RowKit

def rdNums : List Nat → List UInt8 × Int → List Int × (List UInt8 × Int)
  | [], st => ([], st)
  | z :: zs, st => ((rdNum z st).1 :: (rdNums zs (rdNum z st).2).1, (rdNums zs (rdNum z st).2).2)
def rdEnts : Nat → List UInt8 × Int → List Ent × (List UInt8 × Int)
  | 0, st => ([], st)
  | k + 1, st => ((rdEnt st).1 :: (rdEnts k (rdEnt st).2).1, (rdEnts k (rdEnt st).2).2)
def zeroMsg : Msg := ⟨0, 0, 0, 0, 0, 0, 0, 0, false, [], []⟩
def msgOf (ns : List Int) (es : List Ent) (d : List UInt8) : Msg :=
  ⟨ns.getD 0 0, ns.getD 1 0, ns.getD 2 0, ns.getD 4 0, ns.getD 5 0, ns.getD 6 0, ns.getD 7 0, ns.getD 8 0, decide (ns.getD 3 0 = 1), es, d⟩
/-- What is wrong of what was read, and the message. -/
def msgEnd (ns : List Int) (es : List Ent) (d : List UInt8) (st : List UInt8 × Int) : Msg × Int :=
  if st.2 ≠ 0 then (zeroMsg, st.2) else if 1 < ns.getD 3 0 then (zeroMsg, 11) else if st.1.length ≠ 0 then (zeroMsg, 11)
  else if msgOK (msgOf ns es d) = true then (msgOf ns es d, 0) else (zeroMsg, 1)
def headSizes : List Nat := [1, 1, 1, 1, 6, 6, 6, 6, 6]
def unpBody (s : List UInt8 × Int) : Msg × Int :=
  msgEnd (rdNums headSizes s).1 (rdEnts (rdCount 2 4096 (rdNums headSizes s).2).1.toNat (rdCount 2 4096 (rdNums headSizes s).2).2).1
    (rdBytes 4 (rdEnts (rdCount 2 4096 (rdNums headSizes s).2).1.toNat (rdCount 2 4096 (rdNums headSizes s).2).2).2).1
    (rdBytes 4 (rdEnts (rdCount 2 4096 (rdNums headSizes s).2).1.toNat (rdCount 2 4096 (rdNums headSizes s).2).2).2).2
def unpMsg (b : List UInt8) : Msg × Int :=
  if 65536 < b.length then (zeroMsg, 3) else if b.length < 4 then (zeroMsg, 10)
  else if beVal (b.drop (b.length - 4)) ≠ crcSum (b.take (b.length - 4)) then (zeroMsg, 12)
  else if b.length = 4 ∨ b.headD 0 ≠ 202 then (zeroMsg, 11)
  else unpBody ((b.take (b.length - 4)).drop 1, 0)

theorem rdEnts_succ : ∀ (k : Nat) (st : List UInt8 × Int), rdEnts (k + 1) st = ((rdEnts k st).1 ++ [(rdEnt (rdEnts k st).2).1], (rdEnt (rdEnts k st).2).2)
  | 0, st => rfl
  | k + 1, st => by
    have ih := rdEnts_succ k (rdEnt st).2
    show ((rdEnt st).1 :: (rdEnts (k + 1) (rdEnt st).2).1, (rdEnts (k + 1) (rdEnt st).2).2) = _
    rw [ih]
    rfl
theorem rdEnts_length : ∀ (k : Nat) (st : List UInt8 × Int), (rdEnts k st).1.length = k
  | 0, _ => rfl
  | k + 1, st => by show (_ :: _ : List Ent).length = _; rw [List.length_cons, rdEnts_length k]
theorem rdNum_err (size : Nat) (st : List UInt8 × Int) (h : st.2 ≠ 0) : (rdNum size st).2 = st := by unfold rdNum; rw [if_pos h]
theorem rdBytes_err (size : Nat) (st : List UInt8 × Int) (h : st.2 ≠ 0) : (rdBytes size st).2 = st := by unfold rdBytes; rw [if_pos h]
theorem rdEnt_err (st : List UInt8 × Int) (h : st.2 ≠ 0) : (rdEnt st).2 = st := by
  show (rdBytes 2 (rdNum 6 (rdNum 1 st).2).2).2 = st
  rw [rdNum_err 1 st h, rdNum_err 6 st h, rdBytes_err 2 st h]
theorem rdEnts_err (k : Nat) (st : List UInt8 × Int) (h : st.2 ≠ 0) : (rdEnts k st).2 = st := by
  induction k generalizing st with
  | zero => rfl
  | succ k ih =>
    show (rdEnts k (rdEnt st).2).2 = st
    rw [rdEnt_err st h, ih st h]
theorem rdEnts_add (j k : Nat) (st : List UInt8 × Int) : (rdEnts (j + k) st).2 = (rdEnts k (rdEnts j st).2).2 := by
  induction j generalizing st with
  | zero => rw [Nat.zero_add]; rfl
  | succ j ih =>
    rw [show j + 1 + k = (j + k) + 1 by omega]
    show (rdEnts (j + k) (rdEnt st).2).2 = (rdEnts k (rdEnts j (rdEnt st).2).2).2
    rw [ih]
/-- Which errors a reader may have. -/
def erOK (er : Int) : Prop := er = 0 ∨ er = 3 ∨ er = 10
theorem rdNum_er (size : Nat) (st : List UInt8 × Int) (h : erOK st.2) : erOK (rdNum size st).2.2 := by
  unfold rdNum
  by_cases he : st.2 ≠ 0
  · rw [if_pos he]; exact h
  · rw [if_neg he]
    by_cases hl : st.1.length < size
    · rw [if_pos hl]; exact .inr (.inr rfl)
    · rw [if_neg hl]; exact .inl rfl
theorem cutOf_er (size : Nat) (xs : List UInt8) : erOK (cutOf size xs).2.2 := by
  unfold cutOf
  by_cases h1 : xs.length < size
  · rw [if_pos h1]; exact .inr (.inr rfl)
  · rw [if_neg h1]
    by_cases h2 : beVal (xs.take size) > 65536
    · rw [if_pos h2]; exact .inr (.inl rfl)
    · rw [if_neg h2]
      by_cases h3 : xs.length - size < beVal (xs.take size)
      · rw [if_pos h3]; exact .inr (.inr rfl)
      · rw [if_neg h3]; exact .inl rfl
theorem rdBytes_er (size : Nat) (st : List UInt8 × Int) (h : erOK st.2) : erOK (rdBytes size st).2.2 := by
  unfold rdBytes
  by_cases he : st.2 ≠ 0
  · rw [if_pos he]; exact h
  · rw [if_neg he]
    by_cases hc : (cutOf size st.1).2.2 ≠ 0
    · rw [if_pos hc]; exact cutOf_er _ _
    · rw [if_neg hc]; exact .inl rfl
theorem rdEnt_er (st : List UInt8 × Int) (h : erOK st.2) : erOK (rdEnt st).2.2 := rdBytes_er 2 _ (rdNum_er 6 _ (rdNum_er 1 _ h))
theorem rdEnts_er (k : Nat) (st : List UInt8 × Int) (h : erOK st.2) : erOK (rdEnts k st).2.2 := by
  induction k generalizing st with
  | zero => exact h
  | succ k ih => exact ih _ (rdEnt_er st h)
theorem rdCount_er (size most : Nat) (st : List UInt8 × Int) (h : erOK st.2) : erOK (rdCount size most st).2.2 := by
  unfold rdCount
  by_cases he : st.2 ≠ 0
  · rw [if_pos he]; exact h
  · rw [if_neg he]
    by_cases h1 : st.1.length < size
    · rw [if_pos h1]; exact .inr (.inr rfl)
    · rw [if_neg h1]
      by_cases h2 : (most : Int) < (rdNum size st).1
      · rw [if_pos h2]; exact .inr (.inl rfl)
      · rw [if_neg h2]
        by_cases h3 : ((rdNum size st).2.1.length : Int) < (rdNum size st).1
        · rw [if_pos h3]; exact .inr (.inr rfl)
        · rw [if_neg h3]; exact rdNum_er _ _ h
theorem rdNums_er : ∀ (zs : List Nat) (st : List UInt8 × Int), erOK st.2 → erOK (rdNums zs st).2.2
  | [], _, h => h
  | z :: zs, st, h => rdNums_er zs _ (rdNum_er z st h)
theorem rdCount_le (st : List UInt8 × Int) : 0 ≤ (rdCount 2 4096 st).1 ∧ (rdCount 2 4096 st).1 ≤ 4096 := by
  have hl := rdNum_lt 2 st
  unfold rdCount
  by_cases he : st.2 ≠ 0
  · rw [if_pos he]; exact ⟨Int.le_refl _, by show (0 : Int) ≤ 4096; decide⟩
  · rw [if_neg he]
    by_cases h1 : st.1.length < 2
    · rw [if_pos h1]; exact ⟨Int.le_refl _, by show (0 : Int) ≤ 4096; decide⟩
    · rw [if_neg h1]
      by_cases h2 : ((4096 : Nat) : Int) < (rdNum 2 st).1
      · rw [if_pos h2]; exact ⟨Int.le_refl _, by show (0 : Int) ≤ 4096; decide⟩
      · rw [if_neg h2]
        by_cases h3 : ((rdNum 2 st).2.1.length : Int) < (rdNum 2 st).1
        · rw [if_pos h3]; exact ⟨Int.le_refl _, by show (0 : Int) ≤ 4096; decide⟩
        · rw [if_neg h3]; exact ⟨hl.1, by omega⟩
theorem rdEnt_cmd (st : List UInt8 × Int) : (rdEnt st).1.cmd.length ≤ 65536 := by
  show (rdBytes 2 _).1.length ≤ 65536
  unfold rdBytes
  split
  · simp
  · split
    · simp
    · exact cutOf_len _ _
theorem rdEnts_mem : ∀ (k : Nat) (st : List UInt8 × Int), ∀ e ∈ (rdEnts k st).1, in64 e.kind ∧ in64 e.term ∧ e.cmd.length ≤ 65536
  | 0, _, e, he => by cases he
  | k + 1, st, e, he => by
    rcases List.mem_cons.1 he with rfl | he
    · have h := rdEnt_in st
      exact ⟨⟨by omega, by omega⟩, ⟨by omega, by omega⟩, rdEnt_cmd st⟩
    · exact rdEnts_mem k _ e he
end Go.Proofs.Ytoaoldhajpbenaa

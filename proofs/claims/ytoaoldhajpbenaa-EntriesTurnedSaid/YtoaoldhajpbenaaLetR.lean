/- Bytes as a message: the reference's UnpackMsg, of what has fields. No statement is proved here. -/
import Derived.Test.YtoaoldhajpbenaaQLetQ
namespace Go.Proofs.Ytoaoldhajpbenaa
open Go.RowKit

theorem qr_num {W0 w : World} {S : Nat → Prop} {g M : Nat} {st st' : List UInt8 × Int} {cs : Array Value} {n : Int} (size : Nat) (h : Qr W0 S g M w st cs) (he : (n, st') = rdNum size st) (h1 : 1 ≤ size) (h8 : size ≤ 7) :
    Calls Try.prog 78 #[.pointer (some ⟨g, 0, none⟩), .int .i64 size] w fun e w' => e = .returned (.int .i64 n) ∧ Qr W0 S g M w' st' cs := by
  have hn := rrnum_any S g st.1 st.2 size w h.1 h1 h8
  rw [show (st.1, st.2) = st from rfl, ← he] at hn
  exact hn.mono (by rintro _ _ ⟨rfl, hr, hg⟩; exact ⟨rfl, h.num hr hg⟩)
theorem qr_num1 {W0 w : World} {S : Nat → Prop} {g M : Nat} {st st' : List UInt8 × Int} {cs : Array Value} {n : Int} (h : Qr W0 S g M w st cs) (he : (n, st') = rdNum 1 st) :
    Calls Try.prog 78 #[.pointer (some ⟨g, 0, none⟩), .int .i64 1] w fun e w' => e = .returned (.int .i64 n) ∧ Qr W0 S g M w' st' cs := qr_num 1 h he (by omega) (by omega)
theorem qr_num6 {W0 w : World} {S : Nat → Prop} {g M : Nat} {st st' : List UInt8 × Int} {cs : Array Value} {n : Int} (h : Qr W0 S g M w st cs) (he : (n, st') = rdNum 6 st) :
    Calls Try.prog 78 #[.pointer (some ⟨g, 0, none⟩), .int .i64 6] w fun e w' => e = .returned (.int .i64 n) ∧ Qr W0 S g M w' st' cs := qr_num 6 h he (by omega) (by omega)
theorem qr_count {W0 w : World} {S : Nat → Prop} {g M : Nat} {st st' : List UInt8 × Int} {cs : Array Value} {n : Int} (h : Qr W0 S g M w st cs) (he : (n, st') = rdCount 2 4096 st) :
    Calls Try.prog 79 #[.pointer (some ⟨g, 0, none⟩), .int .i64 2, .int .i64 4096] w fun e w' => e = .returned (.int .i64 n) ∧ Qr W0 S g M w' st' cs := by
  have hn := rrcount_any S g st.1 st.2 w h.1
  rw [show (st.1, st.2) = st from rfl, ← he] at hn
  exact hn.mono (by rintro _ _ ⟨rfl, hr, hg⟩; exact ⟨rfl, h.num hr hg⟩)


set_option maxRecDepth 100000 in
set_option maxHeartbeats 8000000 in
theorem qunpackMsg_body {S : Nat → Prop} (v : Value) (xs : List UInt8) (w : World) (hv : Bytes S w v xs) (h1 : xs.length ≤ 65536) (h2 : 4 < xs.length) (hs : beVal (xs.drop (xs.length - 4)) = crcSum (xs.take (xs.length - 4))) (hm : xs.headD 0 = 202) :
    Calls Try.prog 36 #[v] w (UnpTo w xs) := by
  have e : unpMsg xs = unpBody ((xs.take (xs.length - 4)).drop 1, 0) := by unfold unpMsg; rw [if_neg (by omega), if_neg (by omega), if_neg (by omega), if_neg (by rintro (h | h); omega; exact h hm)]
  have hb0 := box_below w (.cells #[.int .i64 0, .int .i64 0, .int .i64 0, .int .i64 0, .int .i64 0, .int .i64 0, .int .i64 0, .int .i64 0, .bool false, .slice none 0 0, .slice none 0 0] 65)
  obtain ⟨vb, vo, c, hvv, hvc, hvm, -⟩ := hv.form (by omega)
  subst hvv
  have hb1 := (hv.mid 0 (xs.length - 4) c (by omega) (by omega) hvm).keep hb0
  rw [List.drop_zero, Nat.add_zero] at hb1
  have hg := rget_yes _ xs (xs.length - 4) 4 _ (hv.keep hb0) (by omega) (by omega) (by omega)
  rw [List.take_of_length_le (by simp; omega)] at hg
  have hsum := rsum_any _ _ _ hb1
  have hlt : beVal (xs.drop (xs.length - 4)) < 4294967296 := by have := beVal_lt (xs.drop (xs.length - 4)); rw [List.length_drop, show xs.length - (xs.length - 4) = 4 by omega] at this; simpa using this
  have hsl := crcSum_lt (xs.take (xs.length - 4))

  have HB := Lib.hid hb0
  have hR := blk_new w (.cells #[.int .i64 0, .int .i64 0, .int .i64 0, .int .i64 0, .int .i64 0, .int .i64 0, .int .i64 0, .int .i64 0, .bool false, .slice none 0 0, .slice none 0 0] 65)
  obtain ⟨⟨d0, d1, d2, d3, d4, d5, d6, d7, d8, d9, d10⟩, -⟩ := cells11 hR
  have HR := Lib.hid hR
  obtain ⟨D, hD⟩ : ∃ D : Int, D = xs.length := ⟨_, rfl⟩
  have h1' : ¬ (65536 < D) := by omega
  have h2' : 4 ≤ D := by omega
  rw [hs] at hlt
  rw [hs] at hg
  obtain ⟨F, hF⟩ : ∃ F, F = xs.take (xs.length - 4) := ⟨_, rfl⟩
  have hFl : F.length = xs.length - 4 := by rw [hF, List.length_take]; omega
  rw [← hF] at hg hsum hlt hb1
  generalize crcSum F = s1 at *
  obtain ⟨I1, hI1⟩ : ∃ I : Int, I = s1 := ⟨_, rfl⟩
  have i0 : 0 ≤ I1 := by omega
  have i1 : I1 < 4294967296 := by omega
  rw [← hI1] at hg hsum
  have Hg := Lib.hid hg
  have Hsum := Lib.hid hsum
  obtain ⟨x, G, hxG⟩ : ∃ x G, F = x :: G := by
    cases F with
    | nil => simp at hFl; omega
    | cons x G => exact ⟨x, G, rfl⟩
  have hx : xs.headD 0 = x := by
    have h3 : xs = F ++ xs.drop (xs.length - 4) := by rw [hF, List.take_append_drop]
    rw [h3, hxG]
    rfl
  obtain ⟨fb, fo, fc, hfv, hfn, hfc, -, hfl, hfcell⟩ := hb1.form (by omega)
  injection hfv with hfv1 hfvn hfv3
  injection hfv1 with hfv1
  injection hfv1 with hfv1 hfv2 _
  subst hfv1 hfv2 hfv3
  clear hfvn
  have c0 := hfcell 0 (.int .u8 x.toNat) (by rw [hxG]; rfl)
  rw [Nat.add_zero] at c0
  have hN0 : 0 < xs.length - 4 := by omega
  have hz : (((xs.length - 4 : Nat) : Int) == 0) = false := by simp only [beq_eq_false_iff_ne, ne_eq]; omega
  have h24 : 4 < xs.length := h2
  clear hfcell hfn hfl hfc
  have hx2 : ((x.toNat : Int) != 202) = false := by
    rw [← hx, hm]; rfl
  have e2 : unpMsg xs = unpBody (G, 0) := by rw [e, ← hF, hxG]; rfl
  obtain ⟨⟨n1, s1⟩, q1⟩ : ∃ p, p = rdNum 1 (G, (0 : Int)) := ⟨_, rfl⟩
  obtain ⟨⟨n2, s2⟩, q2⟩ : ∃ p, p = rdNum 1 s1 := ⟨_, rfl⟩
  obtain ⟨⟨n3, s3⟩, q3⟩ : ∃ p, p = rdNum 1 s2 := ⟨_, rfl⟩
  obtain ⟨⟨n4, s4⟩, q4⟩ : ∃ p, p = rdNum 1 s3 := ⟨_, rfl⟩
  obtain ⟨⟨n5, s5⟩, q5⟩ : ∃ p, p = rdNum 6 s4 := ⟨_, rfl⟩
  obtain ⟨⟨n6, s6⟩, q6⟩ : ∃ p, p = rdNum 6 s5 := ⟨_, rfl⟩
  obtain ⟨⟨n7, s7⟩, q7⟩ : ∃ p, p = rdNum 6 s6 := ⟨_, rfl⟩
  obtain ⟨⟨n8, s8⟩, q8⟩ : ∃ p, p = rdNum 6 s7 := ⟨_, rfl⟩
  obtain ⟨⟨n9, s9⟩, q9⟩ : ∃ p, p = rdNum 6 s8 := ⟨_, rfl⟩
  obtain ⟨⟨kn, s10⟩, q10⟩ : ∃ p, p = rdCount 2 4096 s9 := ⟨_, rfl⟩
  have eh : rdNums headSizes (G, 0) = ([n1, n2, n3, n4, n5, n6, n7, n8, n9], s9) := by
    simp only [headSizes, rdNums, ← q1, ← q2, ← q3, ← q4, ← q5, ← q6, ← q7, ← q8, ← q9]
  have e3 : unpMsg xs = msgEnd [n1, n2, n3, n4, n5, n6, n7, n8, n9] (rdEnts kn.toNat s10).1 (rdBytes 4 (rdEnts kn.toNat s10).2).1 (rdBytes 4 (rdEnts kn.toNat s10).2).2 := by
    rw [e2]
    unfold unpBody
    simp only [eh, ← q10]
  have hkn := rdCount_le s9
  rw [← q10] at hkn
  obtain ⟨kn0, kn1⟩ := hkn
  simp only at kn0 kn1
  have hN : 0 ≤ n4 ∧ in64 n1 ∧ in64 n2 ∧ in64 n3 ∧ in64 n5 ∧ in64 n6 ∧ in64 n7 ∧ in64 n8 ∧ in64 n9 := by
    have b1 := rdNum_lt 1 (G, (0 : Int)); rw [← q1] at b1
    have b2 := rdNum_lt 1 s1; rw [← q2] at b2
    have b3 := rdNum_lt 1 s2; rw [← q3] at b3
    have b4 := rdNum_lt 1 s3; rw [← q4] at b4
    have b5 := rdNum_lt 6 s4; rw [← q5] at b5
    have b6 := rdNum_lt 6 s5; rw [← q6] at b6
    have b7 := rdNum_lt 6 s6; rw [← q7] at b7
    have b8 := rdNum_lt 6 s7; rw [← q8] at b8
    have b9 := rdNum_lt 6 s8; rw [← q9] at b9
    simp at b1 b2 b3 b4 b5 b6 b7 b8 b9
    unfold in64
    omega
  have HN := Lib.hid hN
  clear hN
  have HE := Lib.hid e3
  have her : erOK s10.2 := by
    have h9 := rdNums_er headSizes (G, 0) (.inl rfl)
    rw [eh] at h9
    have := rdCount_er 2 4096 s9 h9
    rwa [← q10] at this
  have HER := Lib.hid her
  clear her
  have HQ := Lib.hid (And.intro q1 (And.intro q2 (And.intro q3 (And.intro q4 (And.intro q5 (And.intro q6 (And.intro q7 (And.intro q8 (And.intro q9 q10)))))))))
  have HxG := Lib.hid hxG
  have hof := (hv.mid 1 (xs.length - 4 - 1) (c - 1) (by omega) (by omega) (by omega)).keep hb0
  have hGe : (xs.drop 1).take (xs.length - 4 - 1) = G := by
    have h3 : F.drop 1 = G := by rw [hxG]; rfl
    rw [← h3, hF, List.drop_take]
  rw [hGe] at hof
  have hGl : G.length ≤ 65536 := by rw [← hGe, List.length_take]; omega
  have hs10 : s10.1.length ≤ 65536 := by
    have h9 := rdNums_left headSizes (G, 0)
    rw [eh] at h9
    have h10 := rdCount_len 2 4096 s9
    rw [← q10] at h10
    exact Nat.le_trans h10 (Nat.le_trans h9 hGl)
  have HS10 := Lib.hid hs10
  clear hs10
  have Hof := Lib.hid hof
  have HGL := Lib.hid hGl
  clear e e2 e3 eh hv hg hsum hb1 hb0 hs hI1 hlt hsl h1 hF hFl hR hx hm hxG d0 d1 d2 d3 d4 d5 d6 d7 d8 d9 d10 q1 q2 q3 q4 q5 q6 q7 q8 q9 q10 hof hGe hGl h2
  go_enter Try.func36, Try.ntmps36
  go_wp2_with (first | (go_at_call 77; refine Hg.out.mono ?_; rintro _ _ ⟨rfl, rfl⟩) | (go_at_call 72; refine Hsum.out.mono ?_; rintro _ _ ⟨rfl, rfl⟩))
  refine (rof_any _ _ G _ Hof.out (by have := HGL.out; omega)).mono ?_
  rintro _ w2 ⟨g, rfl, hgW, hrd2, hb1⟩
  have hR2 := blk_keep hb1 HR.out
  have hB2 := HB.out.trans (hb1.mono (by simp))
  have hgl := hrd2.lt
  have hgw : w.heap.size + 1 ≤ g := by simpa using hgW
  have hU : Qr w (fun b => w.heap.size + 1 ≤ b ∧ b ≠ g ∧ b ≠ w2.heap.size) g w2.heap.size (w2.alloc (.cells #[.int .i64 0, .int .i64 0, .int .i64 0, .int .i64 0, .int .i64 0, .int .i64 0, .int .i64 0, .int .i64 0, .bool false, .slice none 0 0, .slice none 0 0] 65)) (G, 0) #[.int .i64 0, .int .i64 0, .int .i64 0, .int .i64 0, .int .i64 0, .int .i64 0, .int .i64 0, .int .i64 0, .bool false, .slice none 0 0, .slice none 0 0] := by
    refine ⟨(hrd2.mono (S' := fun b => w.heap.size + 1 ≤ b ∧ b ≠ g ∧ b ≠ w2.heap.size) (fun b hb hs => ⟨by simpa using hs.1, hs.2, by omega⟩) (fun h => h.2.1 rfl)).keep (box_below w2 _), blk_new w2 _, blk_alloc hR2 _, below_alloc hB2 _, fun h => h.2.2 rfl, by omega, by omega, by omega⟩
  have HU := Lib.hid hU
  clear hU hrd2 hR2 hB2 Hg Hsum HR HB Hof hgW hb1 c0
  go_wp2_with fail
  refine (qr_num1 HU.out HQ.out.1).mono ?_
  rintro _ w3 ⟨rfl, hu⟩
  have HU := Lib.hid hu
  have f := (frozen11 hu.2.1).1
  have d := (cells11 hu.2.1).1.1
  clear hu
  go_wp2_with fail
  have hu : Qr w (fun b => w.heap.size + 1 ≤ b ∧ b ≠ g ∧ b ≠ w2.heap.size) g w2.heap.size (w3.setCell ⟨w2.heap.size, 0, none⟩ (.int .i64 n1)) s1 #[.int .i64 n1, .int .i64 0, .int .i64 0, .int .i64 0, .int .i64 0, .int .i64 0, .int .i64 0, .int .i64 0, .bool false, .slice none 0 0, .slice none 0 0] := HU.out.set 0 _
  obtain ⟨w3', hw⟩ : ∃ W, (w3.setCell ⟨w2.heap.size, 0, none⟩ (.int .i64 n1)) = W := ⟨_, rfl⟩
  rw [hw] at hu ⊢
  have HU := Lib.hid hu
  clear hu f d hw
  refine (qr_num1 HU.out HQ.out.2.1).mono ?_
  rintro _ w4 ⟨rfl, hu⟩
  have HU := Lib.hid hu
  have f := (frozen11 hu.2.1).2.1
  have d := (cells11 hu.2.1).1.2.1
  clear hu
  go_wp2_with fail
  have hu : Qr w (fun b => w.heap.size + 1 ≤ b ∧ b ≠ g ∧ b ≠ w2.heap.size) g w2.heap.size (w4.setCell ⟨w2.heap.size, 1, none⟩ (.int .i64 n2)) s2 #[.int .i64 n1, .int .i64 n2, .int .i64 0, .int .i64 0, .int .i64 0, .int .i64 0, .int .i64 0, .int .i64 0, .bool false, .slice none 0 0, .slice none 0 0] := HU.out.set 1 _
  obtain ⟨w4', hw⟩ : ∃ W, (w4.setCell ⟨w2.heap.size, 1, none⟩ (.int .i64 n2)) = W := ⟨_, rfl⟩
  rw [hw] at hu ⊢
  have HU := Lib.hid hu
  clear hu f d hw
  refine (qr_num1 HU.out HQ.out.2.2.1).mono ?_
  rintro _ w5 ⟨rfl, hu⟩
  have HU := Lib.hid hu
  have f := (frozen11 hu.2.1).2.2.1
  have d := (cells11 hu.2.1).1.2.2.1
  clear hu
  go_wp2_with fail
  have hu : Qr w (fun b => w.heap.size + 1 ≤ b ∧ b ≠ g ∧ b ≠ w2.heap.size) g w2.heap.size (w5.setCell ⟨w2.heap.size, 2, none⟩ (.int .i64 n3)) s3 #[.int .i64 n1, .int .i64 n2, .int .i64 n3, .int .i64 0, .int .i64 0, .int .i64 0, .int .i64 0, .int .i64 0, .bool false, .slice none 0 0, .slice none 0 0] := HU.out.set 2 _
  obtain ⟨w5', hw⟩ : ∃ W, (w5.setCell ⟨w2.heap.size, 2, none⟩ (.int .i64 n3)) = W := ⟨_, rfl⟩
  rw [hw] at hu ⊢
  have HU := Lib.hid hu
  clear hu f d hw
  refine (qr_num1 HU.out HQ.out.2.2.2.1).mono ?_
  rintro _ w6 ⟨rfl, hu⟩
  have HU := Lib.hid hu
  clear hu
  go_wp2_with fail
  refine (qr_num6 HU.out HQ.out.2.2.2.2.1).mono ?_
  rintro _ w7 ⟨rfl, hu⟩
  have HU := Lib.hid hu
  have f := (frozen11 hu.2.1).2.2.2.1
  have d := (cells11 hu.2.1).1.2.2.2.1
  clear hu
  go_wp2_with fail
  have hu : Qr w (fun b => w.heap.size + 1 ≤ b ∧ b ≠ g ∧ b ≠ w2.heap.size) g w2.heap.size (w7.setCell ⟨w2.heap.size, 3, none⟩ (.int .i64 n5)) s5 #[.int .i64 n1, .int .i64 n2, .int .i64 n3, .int .i64 n5, .int .i64 0, .int .i64 0, .int .i64 0, .int .i64 0, .bool false, .slice none 0 0, .slice none 0 0] := HU.out.set 3 _
  obtain ⟨w7', hw⟩ : ∃ W, (w7.setCell ⟨w2.heap.size, 3, none⟩ (.int .i64 n5)) = W := ⟨_, rfl⟩
  rw [hw] at hu ⊢
  have HU := Lib.hid hu
  clear hu f d hw
  refine (qr_num6 HU.out HQ.out.2.2.2.2.2.1).mono ?_
  rintro _ w8 ⟨rfl, hu⟩
  have HU := Lib.hid hu
  have f := (frozen11 hu.2.1).2.2.2.2.1
  have d := (cells11 hu.2.1).1.2.2.2.2.1
  clear hu
  go_wp2_with fail
  have hu : Qr w (fun b => w.heap.size + 1 ≤ b ∧ b ≠ g ∧ b ≠ w2.heap.size) g w2.heap.size (w8.setCell ⟨w2.heap.size, 4, none⟩ (.int .i64 n6)) s6 #[.int .i64 n1, .int .i64 n2, .int .i64 n3, .int .i64 n5, .int .i64 n6, .int .i64 0, .int .i64 0, .int .i64 0, .bool false, .slice none 0 0, .slice none 0 0] := HU.out.set 4 _
  obtain ⟨w8', hw⟩ : ∃ W, (w8.setCell ⟨w2.heap.size, 4, none⟩ (.int .i64 n6)) = W := ⟨_, rfl⟩
  rw [hw] at hu ⊢
  have HU := Lib.hid hu
  clear hu f d hw
  refine (qr_num6 HU.out HQ.out.2.2.2.2.2.2.1).mono ?_
  rintro _ w9 ⟨rfl, hu⟩
  have HU := Lib.hid hu
  have f := (frozen11 hu.2.1).2.2.2.2.2.1
  have d := (cells11 hu.2.1).1.2.2.2.2.2.1
  clear hu
  go_wp2_with fail
  have hu : Qr w (fun b => w.heap.size + 1 ≤ b ∧ b ≠ g ∧ b ≠ w2.heap.size) g w2.heap.size (w9.setCell ⟨w2.heap.size, 5, none⟩ (.int .i64 n7)) s7 #[.int .i64 n1, .int .i64 n2, .int .i64 n3, .int .i64 n5, .int .i64 n6, .int .i64 n7, .int .i64 0, .int .i64 0, .bool false, .slice none 0 0, .slice none 0 0] := HU.out.set 5 _
  obtain ⟨w9', hw⟩ : ∃ W, (w9.setCell ⟨w2.heap.size, 5, none⟩ (.int .i64 n7)) = W := ⟨_, rfl⟩
  rw [hw] at hu ⊢
  have HU := Lib.hid hu
  clear hu f d hw
  refine (qr_num6 HU.out HQ.out.2.2.2.2.2.2.2.1).mono ?_
  rintro _ w10 ⟨rfl, hu⟩
  have HU := Lib.hid hu
  have f := (frozen11 hu.2.1).2.2.2.2.2.2.1
  have d := (cells11 hu.2.1).1.2.2.2.2.2.2.1
  clear hu
  go_wp2_with fail
  have hu : Qr w (fun b => w.heap.size + 1 ≤ b ∧ b ≠ g ∧ b ≠ w2.heap.size) g w2.heap.size (w10.setCell ⟨w2.heap.size, 6, none⟩ (.int .i64 n8)) s8 #[.int .i64 n1, .int .i64 n2, .int .i64 n3, .int .i64 n5, .int .i64 n6, .int .i64 n7, .int .i64 n8, .int .i64 0, .bool false, .slice none 0 0, .slice none 0 0] := HU.out.set 6 _
  obtain ⟨w10', hw⟩ : ∃ W, (w10.setCell ⟨w2.heap.size, 6, none⟩ (.int .i64 n8)) = W := ⟨_, rfl⟩
  rw [hw] at hu ⊢
  have HU := Lib.hid hu
  clear hu f d hw
  refine (qr_num6 HU.out HQ.out.2.2.2.2.2.2.2.2.1).mono ?_
  rintro _ w11 ⟨rfl, hu⟩
  have HU := Lib.hid hu
  have f := (frozen11 hu.2.1).2.2.2.2.2.2.2.1
  have d := (cells11 hu.2.1).1.2.2.2.2.2.2.2.1
  clear hu
  go_wp2_with fail
  have hu : Qr w (fun b => w.heap.size + 1 ≤ b ∧ b ≠ g ∧ b ≠ w2.heap.size) g w2.heap.size (w11.setCell ⟨w2.heap.size, 7, none⟩ (.int .i64 n9)) s9 #[.int .i64 n1, .int .i64 n2, .int .i64 n3, .int .i64 n5, .int .i64 n6, .int .i64 n7, .int .i64 n8, .int .i64 n9, .bool false, .slice none 0 0, .slice none 0 0] := HU.out.set 7 _
  obtain ⟨w11', hw⟩ : ∃ W, (w11.setCell ⟨w2.heap.size, 7, none⟩ (.int .i64 n9)) = W := ⟨_, rfl⟩
  rw [hw] at hu ⊢
  have HU := Lib.hid hu
  clear hu f d hw
  go_wp2_with fail
  refine (qr_count HU.out HQ.out.2.2.2.2.2.2.2.2.2).mono ?_
  rintro _ w13 ⟨rfl, hu⟩
  have HU := Lib.hid hu
  clear hu
  go_wp2_with fail
  have hL : Ql w g w2.heap.size w13 s10 #[.int .i64 n1, .int .i64 n2, .int .i64 n3, .int .i64 n5, .int .i64 n6, .int .i64 n7, .int .i64 n8, .int .i64 n9, .bool false, .slice none 0 0, .slice none 0 0] (.slice none 0 0) [] := by
    obtain ⟨hR, a2, a3, a4, a5, a6, a7, a8⟩ := HU.out
    have hT : ∀ b, b < w13.heap.size → (w.heap.size + 1 ≤ b ∧ b ≠ g ∧ b ≠ w2.heap.size) → SL w g w2.heap.size (.slice none 0 0) b := fun b _ hs => ⟨hs.1, hs.2.1, hs.2.2, by simp [Value.ownBlock]⟩
    exact ⟨⟨hR.mono hT (fun hs => hs.2.1 rfl), a2, a3, a4, fun hs => hs.2.2.1 rfl, a6, a7, a8⟩, [], World.ownsRow_nil _ _ _ _, rfl⟩
  have HL := Lib.hid hL
  obtain ⟨M, hM⟩ : ∃ M, M = w2.heap.size := ⟨_, rfl⟩
  rw [← hM] at HL ⊢
  clear hL HU
  clear hM
  go_loopw [11, 12, 13] (fun s11 _ _ wr => ∃ k : Nat, k ≤ kn.toNat ∧ s11 = .int .i64 k ∧ ∃ vL, Hid (Ql w g M wr (rdEnts k s10).2 #[.int .i64 n1, .int .i64 n2, .int .i64 n3, .int .i64 n5, .int .i64 n6, .int .i64 n7, .int .i64 n8, .int .i64 n9, .bool false, vL, .slice none 0 0] vL (rdEnts k s10).1)) (fun s11 _ _ _ => kn.toNat - (intOf s11).toNat)
  case atStart => exact ⟨0, Nat.zero_le _, rfl, _, HL⟩
  case round =>
    clear HL
    obtain ⟨k, hk, rfl, vL, HL⟩ := hrel
    obtain ⟨ST, hST⟩ : ∃ ST, ST = (rdEnts k s10).2 := ⟨_, rfl⟩
    obtain ⟨ES, hES⟩ : ∃ ES, ES = (rdEnts k s10).1 := ⟨_, rfl⟩
    have hsc := rdEnts_succ k s10
    have hlen := rdEnts_length k s10
    rw [← hST, ← hES] at hsc HL
    rw [← hES] at hlen
    obtain ⟨-, rv, hrb, -⟩ := HL.out.1.1
    obtain ⟨-, g1, -, -⟩ := cells2 hrb
    clear hrb
    by_cases hlt : k < kn.toNat
    · have hlt2 : (k : Int) < kn := by omega
      by_cases her : ST.2 = 0
      · rw [her] at g1
        have hin := rdEnt_in ST
        obtain ⟨⟨en, st'⟩, hen⟩ : ∃ p, p = rdEnt ST := ⟨_, rfl⟩
        rw [← hen] at hsc hin
        obtain ⟨h1, h2, h3, h4⟩ := hin
        simp only at h1 h2 h3 h4 hsc
        have HSC := Lib.hid (And.intro hsc hlen)
        have HEN := Lib.hid hen
        have HSL := Lib.hid (show ST.1.length ≤ 65536 from by rw [hST]; exact Nat.le_trans (rdEnts_len k s10) HS10.out)
        clear hsc hen hST hES hlen her
        go_wp2_with fail
        refine (ql_entry HL.out HEN.out (by have := HSL.out; omega)).mono ?_
        rintro _ w14 ⟨u, rfl, hl, hu⟩
        obtain ⟨A, c, rfl⟩ := hu.slice
        obtain ⟨kk, tt, pp⟩ := en
        simp only at h1 h2 h3 h4
        have hbx := box_below w14 (.cells #[.int .i64 kk, .int .i64 tt, .slice A pp.length c] 33)
        have HL2 := Lib.hid (hl.below hbx)
        have HU2 := Lib.hid (hu.keep hbx)
        have m9 := cell_keep hbx (((cells11 hl.1.2.1).1).2.2.2.2.2.2.2.2.2.1)
        have hby := box_below (w14.alloc (.cells #[.int .i64 kk, .int .i64 tt, .slice A pp.length c] 33)) (.cells #[.int .i64 kk, .int .i64 tt, .slice A pp.length c] 33)
        have HL3 := HL2.out.below hby
        obtain ⟨hU3, es', hown, hec⟩ := HL3
        have HUU := Lib.hid hU3
        have HN := Lib.hid hown
        have HEC := Lib.hid hec
        have HBY := Lib.hid (HU2.out.keep hby)
        have hbk := blk_new (w14.alloc (.cells #[.int .i64 kk, .int .i64 tt, .slice A pp.length c] 33)) (.cells #[.int .i64 kk, .int .i64 tt, .slice A pp.length c] 33)
        rw [show (w14.alloc (.cells #[.int .i64 kk, .int .i64 tt, .slice A pp.length c] 33)).heap.size = w14.heap.size + 1 by simp] at hbk
        have HBK := Lib.hid hbk
        have hone : ∀ u ∈ ([.int .i64 kk, .int .i64 tt, .slice A pp.length c] : List Value), u.oneCell' = true := by simp [Value.oneCell']
        have Hone := Lib.hid hone
        have h5 : ES.length + 1 ≤ maxLen := by have := HSC.out.2; simp [maxLen]; omega
        have h6 : (ES.length + 1) * 40 ≤ 140737488355328 := by have := HSC.out.2; omega
        obtain ⟨i0, hi, hz0, hz1, hz2⟩ := info_parts infoEntry
        have h7 : w.heap.size + 1 ≤ ((w14.alloc (.cells #[.int .i64 kk, .int .i64 tt, .slice A pp.length c] 33)).alloc (.cells #[.int .i64 kk, .int .i64 tt, .slice A pp.length c] 33)).heap.size := by have := hU3.2.2.2.1.size; have := hU3.2.2.2.2.2.2.2; have := (Array.getElem?_eq_some_iff.1 hU3.2.2.1).1; omega
        have hik : in64 kk := ⟨by omega, by omega⟩
        have hit : in64 tt := ⟨by omega, by omega⟩
        clear hl hu hbx g1 hone hbk hec hown hU3 hby
        go_wp2_with (at_builtin; refine wpList_append_lies _ rfl _ _ 22 rfl (w.heap.size + 1) 33 i0 (.agg #[.int .i64 0, .int .i64 0, .slice none 0 0]) 3 40 Try.underlying22 hi hz0 hz1 hz2 rfl (by decide) vL ES.length es' rfl HN.out ⟨w14.heap.size + 1, 0, none⟩ 1 1 [.int .i64 kk, .int .i64 tt, .slice A pp.length c] rfl rfl (World.news_of_block HBK.out) Hone.out (by decide) h5 h6 h7 _ rfl ?_)
        intro g3 cap3 w15 hown3 hg3 hat3 hlt3
        have hp := ql_push (en := ⟨kk, tt, pp⟩) HUU.out HN.out HEC.out HBY.out hik hit hown3 hg3 (by simpa using hat3)
        have f9 := (frozen11 hp.1.2.1).2.2.2.2.2.2.2.2.2.1
        have d9 := (cells11 hp.1.2.1).1.2.2.2.2.2.2.2.2.2.1
        have HP := Lib.hid hp
        have hs := hp.set 9 (.slice (some ⟨g3, 0, none⟩) (ES.length + 1) cap3)
        have HLN : Hid (Ql w g M (w15.setCell ⟨M, 9, none⟩ (.slice (some ⟨g3, 0, none⟩) (ES.length + 1) cap3)) (rdEnts (k + 1) s10).2 #[.int .i64 n1, .int .i64 n2, .int .i64 n3, .int .i64 n5, .int .i64 n6, .int .i64 n7, .int .i64 n8, .int .i64 n9, .bool false, .slice (some ⟨g3, 0, none⟩) (ES.length + 1) cap3, .slice none 0 0] (.slice (some ⟨g3, 0, none⟩) (ES.length + 1) cap3) (rdEnts (k + 1) s10).1) := Lib.hid (by rw [HSC.out.1]; exact hs)
        clear hp hown3 hg3 hat3 hlt3 hs
        go_wp2_with fail
        go_roundw
        case rel => exact ⟨k + 1, hlt, by go_num, _, HLN⟩
        case measure => simp [intOf]; omega
      · have hF : (rdEnts kn.toNat s10).2 = ST := by
          have h1 := rdEnts_add k (kn.toNat - k) s10
          rw [show k + (kn.toNat - k) = kn.toNat by omega, ← hST, rdEnts_err _ _ her] at h1
          exact h1
        have e0 : unpMsg xs = (zeroMsg, ST.2) := by
          rw [HE.out, hF]
          unfold msgEnd
          rw [rdBytes_err 4 ST her, if_pos her]
        have hso : erOK ST.2 := by rw [hST]; exact rdEnts_er k s10 HER.out
        have hdd : (([] : List UInt8), ST) = rdBytes 4 ST := by unfold rdBytes; rw [if_pos her]
        have h11 : ST.2 = 3 ∨ ST.2 = 10 := by unfold erOK at hso; omega
        have hend0 : endOf ST.1 ST.2 = ST.2 := by unfold endOf; rw [if_neg her]
        have HC := Lib.hid (ql_bytes HL.out hdd (by rw [hST]; have := Nat.le_trans (rdEnts_len k s10) HS10.out; omega))
        have HE0 := Lib.hid e0
        have HEND := Lib.hid hend0
        obtain ⟨er, hera⟩ : ∃ er, er = ST.2 := ⟨_, rfl⟩
        rw [← hera] at g1 h11
        have HERA := Lib.hid hera
        have c1 : (er == 0) = false := by simp; omega
        have c2 : (er != 0) = true := by simp; omega
        clear hF e0 hso hdd hsc hlen hST hES HL her hend0 hera
        go_wp2_with fail
        refine HC.out.mono ?_
        rintro _ w16 ⟨vd, rfl, hf⟩
        obtain ⟨AD, cD, rfl⟩ := hf.2.slice
        have f10 := (frozen11 hf.1.1.2.1).2.2.2.2.2.2.2.2.2.2
        have d10 := (cells11 hf.1.1.2.1).1.2.2.2.2.2.2.2.2.2.2
        have hs := hf.set 10 (.slice AD 0 cD)
        have HF16 := Lib.hid hs
        obtain ⟨-, rv2, hrb2, -⟩ := hs.1.1.1
        rw [← HERA.out] at hrb2
        obtain ⟨-, g1, -, -⟩ := cells2 hrb2
        clear hf hs HC hrb2
        go_wp2_with fail
        refine (rrend_any _ g ST.1 ST.2 _ HF16.out.1.1.1).mono ?_
        rintro _ w17 ⟨rfl, hb⟩
        have HF17 := Lib.hid (HF16.out.below hb)
        have hR17 := HF17.out.1.1.2.2.1
        obtain ⟨⟨d0, d1, d2, d3, d4, d5, d6, d7, d8, d9, d10⟩, -⟩ := cells11 hR17
        obtain ⟨f0, f1, f2, f3, f4, f5, f6, f7, f8, f9, f10⟩ := frozen11 hR17
        have HR17 := Lib.hid hR17
        have HB17 := Lib.hid (HF17.out.1.1.2.2.2.1)
        clear hb hR17 HF16
        rw [HEND.out, ← HERA.out]
        go_wp2_with fail
        have hh := HR17.out
        have hq := @set11 w17 w.heap.size _ _ _ _ _ _ _ _ _ _ _ _ hh
        have hZ := hq (.int .i64 0) (.int .i64 0) (.int .i64 0) (.int .i64 0) (.int .i64 0) (.int .i64 0) (.int .i64 0) (.int .i64 0) (.bool false) (.slice none 0 0) (.slice none 0 0)
        have hBZ := below11 HB17.out (Nat.le_refl _) (.int .i64 0) (.int .i64 0) (.int .i64 0) (.int .i64 0) (.int .i64 0) (.int .i64 0) (.int .i64 0) (.int .i64 0) (.bool false) (.slice none 0 0) (.slice none 0 0)
        obtain ⟨WF, hWF⟩ : ∃ W, (((((((((((w17.setCell ⟨w.heap.size, 0, none⟩ (.int .i64 0)).setCell ⟨w.heap.size, 1, none⟩ (.int .i64 0)).setCell ⟨w.heap.size, 2, none⟩ (.int .i64 0)).setCell ⟨w.heap.size, 3, none⟩ (.int .i64 0)).setCell ⟨w.heap.size, 4, none⟩ (.int .i64 0)).setCell ⟨w.heap.size, 5, none⟩ (.int .i64 0)).setCell ⟨w.heap.size, 6, none⟩ (.int .i64 0)).setCell ⟨w.heap.size, 7, none⟩ (.int .i64 0)).setCell ⟨w.heap.size, 8, none⟩ (.bool false)).setCell ⟨w.heap.size, 9, none⟩ (.slice none 0 0)).setCell ⟨w.heap.size, 10, none⟩ (.slice none 0 0)) = W := ⟨_, rfl⟩
        rw [hWF] at hZ hBZ ⊢
        obtain ⟨⟨z0, z1, z2, z3, z4, z5, z6, z7, z8, z9, z10⟩, -⟩ := cells11 hZ
        clear hWF
        exact bodyPost_ret (v := .tuple #[.agg #[.int .i64 0, .int .i64 0, .int .i64 0, .int .i64 0, .int .i64 0, .int .i64 0, .int .i64 0, .int .i64 0, .bool false, .slice none 0 0, .slice none 0 0], .int .i64 er]) (by simp [results, Try.results36, go_sem, z0, z1, z2, z3, z4, z5, z6, z7, z8, z9, z10]) rfl (unpTo_zero (HE0.out.trans (by rw [HERA.out])) hBZ)
    · obtain rfl : k = kn.toNat := by omega
      obtain ⟨⟨dd, sf⟩, hdd⟩ : ∃ p, p = rdBytes 4 ST := ⟨_, rfl⟩
      have hE := HE.out
      rw [← hES, ← hST, ← hdd] at hE
      have hso : erOK sf.2 := by
        have := rdBytes_er 4 _ (rdEnts_er kn.toNat s10 HER.out)
        rwa [← hST, ← hdd] at this
      have HC := Lib.hid (ql_bytes HL.out hdd (by rw [hST]; have := Nat.le_trans (rdEnts_len kn.toNat s10) HS10.out; omega))
      have HE := Lib.hid hE
      have HSO := Lib.hid hso
      have hge : kn ≤ ((kn.toNat : Nat) : Int) := by omega
      clear hE hES hST hdd hso HL hsc hlen
      go_wp2_with fail
      refine HC.out.mono ?_
      rintro _ w16 ⟨vd, rfl, hf⟩
      obtain ⟨AD, cD, rfl⟩ := hf.2.slice
      have f10 := (frozen11 hf.1.1.2.1).2.2.2.2.2.2.2.2.2.2
      have d10 := (cells11 hf.1.1.2.1).1.2.2.2.2.2.2.2.2.2.2
      have hs := hf.set 10 (.slice AD dd.length cD)
      have HF16 : Hid (Qf w g M (w16.setCell ⟨M, 10, none⟩ (.slice AD dd.length cD)) sf #[.int .i64 n1, .int .i64 n2, .int .i64 n3, .int .i64 n5, .int .i64 n6, .int .i64 n7, .int .i64 n8, .int .i64 n9, .bool false, vL, .slice AD dd.length cD] vL ES (.slice AD dd.length cD) dd) := Lib.hid hs
      obtain ⟨-, rv2, hrb2, -⟩ := hs.1.1.1
      obtain ⟨-, g1, -, -⟩ := cells2 hrb2
      clear hf hs HC hrb2
      by_cases hsf : sf.2 ≠ 0
      · have hw : endOf sf.1 sf.2 = sf.2 := by unfold endOf; rw [if_neg hsf]
        have e0 : unpMsg xs = (zeroMsg, sf.2) := by rw [HE.out]; unfold msgEnd; rw [if_pos hsf]
        have h11 : sf.2 = 3 ∨ sf.2 = 10 := by have := HSO.out; unfold erOK at this; omega
        obtain ⟨er, her⟩ : ∃ er, er = sf.2 := ⟨_, rfl⟩
        have HW := Lib.hid (hw.trans her.symm)
        rw [← her] at e0 h11 g1
        have HE0 := Lib.hid e0
        have c0 : (er == 0) = false := by simp; omega
        have c1 : (er != 0) = true := by simp; omega
        clear hw e0 her hsf
        go_wp2_with fail
        refine (rrend_any _ g sf.1 sf.2 _ HF16.out.1.1.1).mono ?_
        rintro _ w17 ⟨rfl, hb⟩
        have HF17 := Lib.hid (HF16.out.below hb)
        have hR17 := HF17.out.1.1.2.2.1
        obtain ⟨⟨d0, d1, d2, d3, d4, d5, d6, d7, d8, d9, d10⟩, -⟩ := cells11 hR17
        obtain ⟨f0, f1, f2, f3, f4, f5, f6, f7, f8, f9, f10⟩ := frozen11 hR17
        have HR17 := Lib.hid hR17
        have HB17 := Lib.hid (HF17.out.1.1.2.2.2.1)
        clear hb hR17 HF16
        rw [HW.out]
        go_wp2_with fail
        have hh := HR17.out
        have hq := @set11 w17 w.heap.size _ _ _ _ _ _ _ _ _ _ _ _ hh
        have hZ := hq (.int .i64 0) (.int .i64 0) (.int .i64 0) (.int .i64 0) (.int .i64 0) (.int .i64 0) (.int .i64 0) (.int .i64 0) (.bool false) (.slice none 0 0) (.slice none 0 0)
        have hBZ := below11 HB17.out (Nat.le_refl _) (.int .i64 0) (.int .i64 0) (.int .i64 0) (.int .i64 0) (.int .i64 0) (.int .i64 0) (.int .i64 0) (.int .i64 0) (.bool false) (.slice none 0 0) (.slice none 0 0)
        obtain ⟨WF, hWF⟩ : ∃ W, (((((((((((w17.setCell ⟨w.heap.size, 0, none⟩ (.int .i64 0)).setCell ⟨w.heap.size, 1, none⟩ (.int .i64 0)).setCell ⟨w.heap.size, 2, none⟩ (.int .i64 0)).setCell ⟨w.heap.size, 3, none⟩ (.int .i64 0)).setCell ⟨w.heap.size, 4, none⟩ (.int .i64 0)).setCell ⟨w.heap.size, 5, none⟩ (.int .i64 0)).setCell ⟨w.heap.size, 6, none⟩ (.int .i64 0)).setCell ⟨w.heap.size, 7, none⟩ (.int .i64 0)).setCell ⟨w.heap.size, 8, none⟩ (.bool false)).setCell ⟨w.heap.size, 9, none⟩ (.slice none 0 0)).setCell ⟨w.heap.size, 10, none⟩ (.slice none 0 0)) = W := ⟨_, rfl⟩
        rw [hWF] at hZ hBZ ⊢
        obtain ⟨⟨z0, z1, z2, z3, z4, z5, z6, z7, z8, z9, z10⟩, -⟩ := cells11 hZ
        clear hWF
        exact bodyPost_ret (v := .tuple #[.agg #[.int .i64 0, .int .i64 0, .int .i64 0, .int .i64 0, .int .i64 0, .int .i64 0, .int .i64 0, .int .i64 0, .bool false, .slice none 0 0, .slice none 0 0], .int .i64 er]) (by simp [results, Try.results36, go_sem, z0, z1, z2, z3, z4, z5, z6, z7, z8, z9, z10]) rfl (unpTo_zero HE0.out hBZ)
      · have hsf0 : sf.2 = 0 := by omega
        rw [hsf0] at g1
        by_cases hy : 1 < n4
        · have e0 : unpMsg xs = (zeroMsg, 11) := by rw [HE.out]; unfold msgEnd; rw [if_neg (by omega), if_pos (by exact hy)]
          have HE0 := Lib.hid e0
          have hR17 := HF16.out.1.1.2.2.1
          obtain ⟨⟨d0, d1, d2, d3, d4, d5, d6, d7, d8, d9, d10⟩, -⟩ := cells11 hR17
          obtain ⟨f0, f1, f2, f3, f4, f5, f6, f7, f8, f9, f10⟩ := frozen11 hR17
          have HR17 := Lib.hid hR17
          have HB17 := Lib.hid (HF16.out.1.1.2.2.2.1)
          clear e0 hsf hsf0 hR17
          go_wp2_with fail
          have hh := HR17.out
          have hq := @set11 (w16.setCell ⟨M, 10, none⟩ (.slice AD dd.length cD)) w.heap.size _ _ _ _ _ _ _ _ _ _ _ _ hh
          have hZ := hq (.int .i64 0) (.int .i64 0) (.int .i64 0) (.int .i64 0) (.int .i64 0) (.int .i64 0) (.int .i64 0) (.int .i64 0) (.bool false) (.slice none 0 0) (.slice none 0 0)
          have hBZ := below11 HB17.out (Nat.le_refl _) (.int .i64 0) (.int .i64 0) (.int .i64 0) (.int .i64 0) (.int .i64 0) (.int .i64 0) (.int .i64 0) (.int .i64 0) (.bool false) (.slice none 0 0) (.slice none 0 0)
          obtain ⟨WF, hWF⟩ : ∃ W, ((((((((((((w16.setCell ⟨M, 10, none⟩ (.slice AD dd.length cD)).setCell ⟨w.heap.size, 0, none⟩ (.int .i64 0)).setCell ⟨w.heap.size, 1, none⟩ (.int .i64 0)).setCell ⟨w.heap.size, 2, none⟩ (.int .i64 0)).setCell ⟨w.heap.size, 3, none⟩ (.int .i64 0)).setCell ⟨w.heap.size, 4, none⟩ (.int .i64 0)).setCell ⟨w.heap.size, 5, none⟩ (.int .i64 0)).setCell ⟨w.heap.size, 6, none⟩ (.int .i64 0)).setCell ⟨w.heap.size, 7, none⟩ (.int .i64 0)).setCell ⟨w.heap.size, 8, none⟩ (.bool false)).setCell ⟨w.heap.size, 9, none⟩ (.slice none 0 0)).setCell ⟨w.heap.size, 10, none⟩ (.slice none 0 0)) = W := ⟨_, rfl⟩
          rw [hWF] at hZ hBZ ⊢
          obtain ⟨⟨z0, z1, z2, z3, z4, z5, z6, z7, z8, z9, z10⟩, -⟩ := cells11 hZ
          clear hWF
          exact bodyPost_ret (v := .tuple #[.agg #[.int .i64 0, .int .i64 0, .int .i64 0, .int .i64 0, .int .i64 0, .int .i64 0, .int .i64 0, .int .i64 0, .bool false, .slice none 0 0, .slice none 0 0], .int .i64 11]) (by simp [results, Try.results36, go_sem, z0, z1, z2, z3, z4, z5, z6, z7, z8, z9, z10]) rfl (unpTo_zero HE0.out hBZ)
        · have hw : endOf sf.1 sf.2 = if sf.1.length = 0 then 0 else 11 := by unfold endOf; rw [if_pos hsf0]
          have HW := Lib.hid hw
          clear hw
          go_wp2_with fail
          refine (rrend_any _ g sf.1 sf.2 _ HF16.out.1.1.1).mono ?_
          rintro _ w17 ⟨rfl, hb⟩
          have HF17 := Lib.hid (HF16.out.below hb)
          have hR17 := HF17.out.1.1.2.2.1
          obtain ⟨⟨d0, d1, d2, d3, d4, d5, d6, d7, d8, d9, d10⟩, -⟩ := cells11 hR17
          obtain ⟨f0, f1, f2, f3, f4, f5, f6, f7, f8, f9, f10⟩ := frozen11 hR17
          have HR17 := Lib.hid hR17
          have HB17 := Lib.hid (HF17.out.1.1.2.2.2.1)
          clear hb hR17 HF16 g1
          rw [HW.out]
          by_cases hl : sf.1.length = 0
          · rw [if_pos hl]
            have hn4 : n4 = 0 ∨ n4 = 1 := by have := HN.out.1; omega
            have hfm := HF17.out
            obtain ⟨AL, cL, rfl⟩ := (RowAt.of_own hfm.1.2.choose_spec.1).slice
            clear hsf hfm
            rcases hn4 with rfl | rfl
            · have e0 : unpMsg xs = if msgOK ⟨n1, n2, n3, n5, n6, n7, n8, n9, false, ES, dd⟩ = true then (⟨n1, n2, n3, n5, n6, n7, n8, n9, false, ES, dd⟩, 0) else (zeroMsg, 1) := by rw [HE.out]; unfold msgEnd; rw [if_neg (by omega), if_neg (by simp), if_neg (by omega)]; rfl
              obtain ⟨⟨m0, m1, m2, m3, m4, m5, m6, m7, m8, m9, m10⟩, -⟩ := cells11 HF17.out.1.1.2.1
              have mf8 := (frozen11 HF17.out.1.1.2.1).2.2.2.2.2.2.2.2.1
              have hs := HF17.out.set 8 (.bool false)
              have hmsg := Qf.msg (m := ⟨n1, n2, n3, n5, n6, n7, n8, n9, false, ES, dd⟩) hs HN.out.2
              have hfit := qrightMsg_any ⟨n1, n2, n3, n5, n6, n7, n8, n9, false, ES, dd⟩ _ _ _ hmsg
              have HFIT := Lib.hid hfit
              have HFS := Lib.hid hs
              clear hs hmsg hfit hsf0 hl
              go_wp2_with fail
              refine HFIT.out.mono ?_
              rintro _ w18 ⟨rfl, hb⟩
              have HF18 := Lib.hid (HFS.out.below hb)
              have hR18 := HF18.out.1.1.2.2.1
              obtain ⟨⟨d0, d1, d2, d3, d4, d5, d6, d7, d8, d9, d10⟩, -⟩ := cells11 hR18
              obtain ⟨f0, f1, f2, f3, f4, f5, f6, f7, f8, f9, f10⟩ := frozen11 hR18
              have HR18 := Lib.hid hR18
              have HB18 := Lib.hid (HF18.out.1.1.2.2.2.1)
              have hM18 : w18.heap[M]? = some (.cells #[.int .i64 n1, .int .i64 n2, .int .i64 n3, .int .i64 n5, .int .i64 n6, .int .i64 n7, .int .i64 n8, .int .i64 n9, .bool false, .slice AL ES.length cL, .slice AD dd.length cD] 65 (0, 0)) := HF18.out.1.1.2.1
              obtain ⟨⟨m0, m1, m2, m3, m4, m5, m6, m7, m8, m9, m10⟩, -⟩ := cells11 hM18
              clear hb hR18 hM18 HFS HFIT
              by_cases hok : msgOK ⟨n1, n2, n3, n5, n6, n7, n8, n9, false, ES, dd⟩ = true
              · rw [if_pos hok] at e0
                rw [hok]
                have hmsg := Qf.msg (m := ⟨n1, n2, n3, n5, n6, n7, n8, n9, false, ES, dd⟩) HF18.out HN.out.2
                have HE0 := Lib.hid e0
                have HMS := Lib.hid hmsg
                clear e0 hmsg hok
                go_wp2_with fail
                have hh := HR18.out
                have hq := @set11 w18 w.heap.size _ _ _ _ _ _ _ _ _ _ _ _ hh
                have hZ := hq (.int .i64 n1) (.int .i64 n2) (.int .i64 n3) (.int .i64 n5) (.int .i64 n6) (.int .i64 n7) (.int .i64 n8) (.int .i64 n9) (.bool false) (.slice AL ES.length cL) (.slice AD dd.length cD)
                have hBZ := below11 HB18.out (Nat.le_refl _) (.int .i64 n1) (.int .i64 n2) (.int .i64 n3) (.int .i64 n5) (.int .i64 n6) (.int .i64 n7) (.int .i64 n8) (.int .i64 n9) (.bool false) (.slice AL ES.length cL) (.slice AD dd.length cD)
                have hMZ := (HMS.out.keepS (same11 (S := (w.heap.size + 1 ≤ ·)) (W := w18) (b := w.heap.size) (Nat.not_succ_le_self _) (.int .i64 n1) (.int .i64 n2) (.int .i64 n3) (.int .i64 n5) (.int .i64 n6) (.int .i64 n7) (.int .i64 n8) (.int .i64 n9) (.bool false) (.slice AL ES.length cL) (.slice AD dd.length cD))).mono (T := (w.heap.size ≤ ·)) (fun b _ hb => Nat.le_of_succ_le hb)
                obtain ⟨WF, hWF⟩ : ∃ W, (((((((((((w18.setCell ⟨w.heap.size, 0, none⟩ (.int .i64 n1)).setCell ⟨w.heap.size, 1, none⟩ (.int .i64 n2)).setCell ⟨w.heap.size, 2, none⟩ (.int .i64 n3)).setCell ⟨w.heap.size, 3, none⟩ (.int .i64 n5)).setCell ⟨w.heap.size, 4, none⟩ (.int .i64 n6)).setCell ⟨w.heap.size, 5, none⟩ (.int .i64 n7)).setCell ⟨w.heap.size, 6, none⟩ (.int .i64 n8)).setCell ⟨w.heap.size, 7, none⟩ (.int .i64 n9)).setCell ⟨w.heap.size, 8, none⟩ (.bool false)).setCell ⟨w.heap.size, 9, none⟩ (.slice AL ES.length cL)).setCell ⟨w.heap.size, 10, none⟩ (.slice AD dd.length cD)) = W := ⟨_, rfl⟩
                rw [hWF] at hZ hBZ hMZ ⊢
                obtain ⟨⟨z0, z1, z2, z3, z4, z5, z6, z7, z8, z9, z10⟩, -⟩ := cells11 hZ
                clear hWF
                exact bodyPost_ret (v := .tuple #[.agg #[.int .i64 n1, .int .i64 n2, .int .i64 n3, .int .i64 n5, .int .i64 n6, .int .i64 n7, .int .i64 n8, .int .i64 n9, .bool false, .slice AL ES.length cL, .slice AD dd.length cD], .int .i64 0]) (by simp [results, Try.results36, go_sem, z0, z1, z2, z3, z4, z5, z6, z7, z8, z9, z10]) rfl (⟨_, _, by rw [HE0.out]; rfl, by rw [HE0.out]; exact hMZ, hBZ⟩)
              · rw [if_neg hok] at e0
                rw [show msgOK ⟨n1, n2, n3, n5, n6, n7, n8, n9, false, ES, dd⟩ = false by simpa using hok]
                have HE0 := Lib.hid e0
                clear e0 hok
                go_wp2_with fail
                have hh := HR18.out
                have hq := @set11 w18 w.heap.size _ _ _ _ _ _ _ _ _ _ _ _ hh
                have hZ := hq (.int .i64 0) (.int .i64 0) (.int .i64 0) (.int .i64 0) (.int .i64 0) (.int .i64 0) (.int .i64 0) (.int .i64 0) (.bool false) (.slice none 0 0) (.slice none 0 0)
                have hBZ := below11 HB18.out (Nat.le_refl _) (.int .i64 0) (.int .i64 0) (.int .i64 0) (.int .i64 0) (.int .i64 0) (.int .i64 0) (.int .i64 0) (.int .i64 0) (.bool false) (.slice none 0 0) (.slice none 0 0)
                obtain ⟨WF, hWF⟩ : ∃ W, (((((((((((w18.setCell ⟨w.heap.size, 0, none⟩ (.int .i64 0)).setCell ⟨w.heap.size, 1, none⟩ (.int .i64 0)).setCell ⟨w.heap.size, 2, none⟩ (.int .i64 0)).setCell ⟨w.heap.size, 3, none⟩ (.int .i64 0)).setCell ⟨w.heap.size, 4, none⟩ (.int .i64 0)).setCell ⟨w.heap.size, 5, none⟩ (.int .i64 0)).setCell ⟨w.heap.size, 6, none⟩ (.int .i64 0)).setCell ⟨w.heap.size, 7, none⟩ (.int .i64 0)).setCell ⟨w.heap.size, 8, none⟩ (.bool false)).setCell ⟨w.heap.size, 9, none⟩ (.slice none 0 0)).setCell ⟨w.heap.size, 10, none⟩ (.slice none 0 0)) = W := ⟨_, rfl⟩
                rw [hWF] at hZ hBZ ⊢
                obtain ⟨⟨z0, z1, z2, z3, z4, z5, z6, z7, z8, z9, z10⟩, -⟩ := cells11 hZ
                clear hWF
                exact bodyPost_ret (v := .tuple #[.agg #[.int .i64 0, .int .i64 0, .int .i64 0, .int .i64 0, .int .i64 0, .int .i64 0, .int .i64 0, .int .i64 0, .bool false, .slice none 0 0, .slice none 0 0], .int .i64 1]) (by simp [results, Try.results36, go_sem, z0, z1, z2, z3, z4, z5, z6, z7, z8, z9, z10]) rfl (unpTo_zero HE0.out hBZ)
            · have e0 : unpMsg xs = if msgOK ⟨n1, n2, n3, n5, n6, n7, n8, n9, true, ES, dd⟩ = true then (⟨n1, n2, n3, n5, n6, n7, n8, n9, true, ES, dd⟩, 0) else (zeroMsg, 1) := by rw [HE.out]; unfold msgEnd; rw [if_neg (by omega), if_neg (by simp), if_neg (by omega)]; rfl
              obtain ⟨⟨m0, m1, m2, m3, m4, m5, m6, m7, m8, m9, m10⟩, -⟩ := cells11 HF17.out.1.1.2.1
              have mf8 := (frozen11 HF17.out.1.1.2.1).2.2.2.2.2.2.2.2.1
              have hs := HF17.out.set 8 (.bool true)
              have hmsg := Qf.msg (m := ⟨n1, n2, n3, n5, n6, n7, n8, n9, true, ES, dd⟩) hs HN.out.2
              have hfit := qrightMsg_any ⟨n1, n2, n3, n5, n6, n7, n8, n9, true, ES, dd⟩ _ _ _ hmsg
              have HFIT := Lib.hid hfit
              have HFS := Lib.hid hs
              clear hs hmsg hfit hsf0 hl
              go_wp2_with fail
              refine HFIT.out.mono ?_
              rintro _ w18 ⟨rfl, hb⟩
              have HF18 := Lib.hid (HFS.out.below hb)
              have hR18 := HF18.out.1.1.2.2.1
              obtain ⟨⟨d0, d1, d2, d3, d4, d5, d6, d7, d8, d9, d10⟩, -⟩ := cells11 hR18
              obtain ⟨f0, f1, f2, f3, f4, f5, f6, f7, f8, f9, f10⟩ := frozen11 hR18
              have HR18 := Lib.hid hR18
              have HB18 := Lib.hid (HF18.out.1.1.2.2.2.1)
              have hM18 : w18.heap[M]? = some (.cells #[.int .i64 n1, .int .i64 n2, .int .i64 n3, .int .i64 n5, .int .i64 n6, .int .i64 n7, .int .i64 n8, .int .i64 n9, .bool true, .slice AL ES.length cL, .slice AD dd.length cD] 65 (0, 0)) := HF18.out.1.1.2.1
              obtain ⟨⟨m0, m1, m2, m3, m4, m5, m6, m7, m8, m9, m10⟩, -⟩ := cells11 hM18
              clear hb hR18 hM18 HFS HFIT
              by_cases hok : msgOK ⟨n1, n2, n3, n5, n6, n7, n8, n9, true, ES, dd⟩ = true
              · rw [if_pos hok] at e0
                rw [hok]
                have hmsg := Qf.msg (m := ⟨n1, n2, n3, n5, n6, n7, n8, n9, true, ES, dd⟩) HF18.out HN.out.2
                have HE0 := Lib.hid e0
                have HMS := Lib.hid hmsg
                clear e0 hmsg hok
                go_wp2_with fail
                have hh := HR18.out
                have hq := @set11 w18 w.heap.size _ _ _ _ _ _ _ _ _ _ _ _ hh
                have hZ := hq (.int .i64 n1) (.int .i64 n2) (.int .i64 n3) (.int .i64 n5) (.int .i64 n6) (.int .i64 n7) (.int .i64 n8) (.int .i64 n9) (.bool true) (.slice AL ES.length cL) (.slice AD dd.length cD)
                have hBZ := below11 HB18.out (Nat.le_refl _) (.int .i64 n1) (.int .i64 n2) (.int .i64 n3) (.int .i64 n5) (.int .i64 n6) (.int .i64 n7) (.int .i64 n8) (.int .i64 n9) (.bool true) (.slice AL ES.length cL) (.slice AD dd.length cD)
                have hMZ := (HMS.out.keepS (same11 (S := (w.heap.size + 1 ≤ ·)) (W := w18) (b := w.heap.size) (Nat.not_succ_le_self _) (.int .i64 n1) (.int .i64 n2) (.int .i64 n3) (.int .i64 n5) (.int .i64 n6) (.int .i64 n7) (.int .i64 n8) (.int .i64 n9) (.bool true) (.slice AL ES.length cL) (.slice AD dd.length cD))).mono (T := (w.heap.size ≤ ·)) (fun b _ hb => Nat.le_of_succ_le hb)
                obtain ⟨WF, hWF⟩ : ∃ W, (((((((((((w18.setCell ⟨w.heap.size, 0, none⟩ (.int .i64 n1)).setCell ⟨w.heap.size, 1, none⟩ (.int .i64 n2)).setCell ⟨w.heap.size, 2, none⟩ (.int .i64 n3)).setCell ⟨w.heap.size, 3, none⟩ (.int .i64 n5)).setCell ⟨w.heap.size, 4, none⟩ (.int .i64 n6)).setCell ⟨w.heap.size, 5, none⟩ (.int .i64 n7)).setCell ⟨w.heap.size, 6, none⟩ (.int .i64 n8)).setCell ⟨w.heap.size, 7, none⟩ (.int .i64 n9)).setCell ⟨w.heap.size, 8, none⟩ (.bool true)).setCell ⟨w.heap.size, 9, none⟩ (.slice AL ES.length cL)).setCell ⟨w.heap.size, 10, none⟩ (.slice AD dd.length cD)) = W := ⟨_, rfl⟩
                rw [hWF] at hZ hBZ hMZ ⊢
                obtain ⟨⟨z0, z1, z2, z3, z4, z5, z6, z7, z8, z9, z10⟩, -⟩ := cells11 hZ
                clear hWF
                exact bodyPost_ret (v := .tuple #[.agg #[.int .i64 n1, .int .i64 n2, .int .i64 n3, .int .i64 n5, .int .i64 n6, .int .i64 n7, .int .i64 n8, .int .i64 n9, .bool true, .slice AL ES.length cL, .slice AD dd.length cD], .int .i64 0]) (by simp [results, Try.results36, go_sem, z0, z1, z2, z3, z4, z5, z6, z7, z8, z9, z10]) rfl (⟨_, _, by rw [HE0.out]; rfl, by rw [HE0.out]; exact hMZ, hBZ⟩)
              · rw [if_neg hok] at e0
                rw [show msgOK ⟨n1, n2, n3, n5, n6, n7, n8, n9, true, ES, dd⟩ = false by simpa using hok]
                have HE0 := Lib.hid e0
                clear e0 hok
                go_wp2_with fail
                have hh := HR18.out
                have hq := @set11 w18 w.heap.size _ _ _ _ _ _ _ _ _ _ _ _ hh
                have hZ := hq (.int .i64 0) (.int .i64 0) (.int .i64 0) (.int .i64 0) (.int .i64 0) (.int .i64 0) (.int .i64 0) (.int .i64 0) (.bool false) (.slice none 0 0) (.slice none 0 0)
                have hBZ := below11 HB18.out (Nat.le_refl _) (.int .i64 0) (.int .i64 0) (.int .i64 0) (.int .i64 0) (.int .i64 0) (.int .i64 0) (.int .i64 0) (.int .i64 0) (.bool false) (.slice none 0 0) (.slice none 0 0)
                obtain ⟨WF, hWF⟩ : ∃ W, (((((((((((w18.setCell ⟨w.heap.size, 0, none⟩ (.int .i64 0)).setCell ⟨w.heap.size, 1, none⟩ (.int .i64 0)).setCell ⟨w.heap.size, 2, none⟩ (.int .i64 0)).setCell ⟨w.heap.size, 3, none⟩ (.int .i64 0)).setCell ⟨w.heap.size, 4, none⟩ (.int .i64 0)).setCell ⟨w.heap.size, 5, none⟩ (.int .i64 0)).setCell ⟨w.heap.size, 6, none⟩ (.int .i64 0)).setCell ⟨w.heap.size, 7, none⟩ (.int .i64 0)).setCell ⟨w.heap.size, 8, none⟩ (.bool false)).setCell ⟨w.heap.size, 9, none⟩ (.slice none 0 0)).setCell ⟨w.heap.size, 10, none⟩ (.slice none 0 0)) = W := ⟨_, rfl⟩
                rw [hWF] at hZ hBZ ⊢
                obtain ⟨⟨z0, z1, z2, z3, z4, z5, z6, z7, z8, z9, z10⟩, -⟩ := cells11 hZ
                clear hWF
                exact bodyPost_ret (v := .tuple #[.agg #[.int .i64 0, .int .i64 0, .int .i64 0, .int .i64 0, .int .i64 0, .int .i64 0, .int .i64 0, .int .i64 0, .bool false, .slice none 0 0, .slice none 0 0], .int .i64 1]) (by simp [results, Try.results36, go_sem, z0, z1, z2, z3, z4, z5, z6, z7, z8, z9, z10]) rfl (unpTo_zero HE0.out hBZ)
          · have e0 : unpMsg xs = (zeroMsg, 11) := by rw [HE.out]; unfold msgEnd; rw [if_neg (by omega), if_neg (by show ¬ (1 < n4); omega), if_pos hl]
            have HE0 := Lib.hid e0
            rw [if_neg hl]
            clear e0 hsf hsf0 hl
            go_wp2_with fail
            have hh := HR17.out
            have hq := @set11 w17 w.heap.size _ _ _ _ _ _ _ _ _ _ _ _ hh
            have hZ := hq (.int .i64 0) (.int .i64 0) (.int .i64 0) (.int .i64 0) (.int .i64 0) (.int .i64 0) (.int .i64 0) (.int .i64 0) (.bool false) (.slice none 0 0) (.slice none 0 0)
            have hBZ := below11 HB17.out (Nat.le_refl _) (.int .i64 0) (.int .i64 0) (.int .i64 0) (.int .i64 0) (.int .i64 0) (.int .i64 0) (.int .i64 0) (.int .i64 0) (.bool false) (.slice none 0 0) (.slice none 0 0)
            obtain ⟨WF, hWF⟩ : ∃ W, (((((((((((w17.setCell ⟨w.heap.size, 0, none⟩ (.int .i64 0)).setCell ⟨w.heap.size, 1, none⟩ (.int .i64 0)).setCell ⟨w.heap.size, 2, none⟩ (.int .i64 0)).setCell ⟨w.heap.size, 3, none⟩ (.int .i64 0)).setCell ⟨w.heap.size, 4, none⟩ (.int .i64 0)).setCell ⟨w.heap.size, 5, none⟩ (.int .i64 0)).setCell ⟨w.heap.size, 6, none⟩ (.int .i64 0)).setCell ⟨w.heap.size, 7, none⟩ (.int .i64 0)).setCell ⟨w.heap.size, 8, none⟩ (.bool false)).setCell ⟨w.heap.size, 9, none⟩ (.slice none 0 0)).setCell ⟨w.heap.size, 10, none⟩ (.slice none 0 0)) = W := ⟨_, rfl⟩
            rw [hWF] at hZ hBZ ⊢
            obtain ⟨⟨z0, z1, z2, z3, z4, z5, z6, z7, z8, z9, z10⟩, -⟩ := cells11 hZ
            clear hWF
            exact bodyPost_ret (v := .tuple #[.agg #[.int .i64 0, .int .i64 0, .int .i64 0, .int .i64 0, .int .i64 0, .int .i64 0, .int .i64 0, .int .i64 0, .bool false, .slice none 0 0, .slice none 0 0], .int .i64 11]) (by simp [results, Try.results36, go_sem, z0, z1, z2, z3, z4, z5, z6, z7, z8, z9, z10]) rfl (unpTo_zero HE0.out hBZ)
end Go.Proofs.Ytoaoldhajpbenaa

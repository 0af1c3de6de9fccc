/- Texts that belong together, in one file: LetO, LetP, LetQ. No statement is proved here. -/
import Derived.Test.YtoaoldhajpbenaaLetN
namespace Go.Proofs.Ytoaoldhajpbenaa
open Go.RowKit

theorem unpackMsg_any {S : Nat → Prop} (v : Value) (xs : List UInt8) (w : World) (hv : Bytes S w v xs) (h47 : xs.length ≤ 140737488355328) : Calls Try.prog 35 #[v] w (UnpTo w xs) := by
  by_cases h1 : 65536 < xs.length ∨ xs.length < 4
  · exact unpackMsg_size v xs w hv h47 h1
  by_cases hs : beVal (xs.drop (xs.length - 4)) ≠ crcSum (xs.take (xs.length - 4))
  · exact unpackMsg_sum v xs w hv (by omega) (by omega) hs
  have hs' : beVal (xs.drop (xs.length - 4)) = crcSum (xs.take (xs.length - 4)) := by omega
  by_cases h4 : xs.length = 4
  · exact unpackMsg_none v xs w hv (by omega) h4 hs'
  by_cases hm : xs.headD 0 = 202
  · exact unpackMsg_body v xs w hv (by omega) (by omega) hs' hm
  · exact unpackMsg_mark v xs w hv (by omega) (by omega) hs' hm
end Go.Proofs.Ytoaoldhajpbenaa

namespace Go.Proofs.Ytoaoldhajpbenaa
open Go.RowKit

set_option maxRecDepth 100000 in
set_option maxHeartbeats 1000000 in
theorem qunpackMsg_size {S : Nat → Prop} (v : Value) (xs : List UInt8) (w : World) (hv : Bytes S w v xs) (h47 : xs.length ≤ 140737488355328) (hn : 65536 < xs.length ∨ xs.length < 4) :
    Calls Try.prog 36 #[v] w (UnpTo w xs) := by
  obtain ⟨A, c, rfl⟩ := hv.slice
  have HB := Lib.hid (box_below w (.cells #[.int .i64 0, .int .i64 0, .int .i64 0, .int .i64 0, .int .i64 0, .int .i64 0, .int .i64 0, .int .i64 0, .bool false, .slice none 0 0, .slice none 0 0] 65))
  have HR := Lib.hid (blk_new w (.cells #[.int .i64 0, .int .i64 0, .int .i64 0, .int .i64 0, .int .i64 0, .int .i64 0, .int .i64 0, .int .i64 0, .bool false, .slice none 0 0, .slice none 0 0] 65))
  obtain ⟨⟨d0, d1, d2, d3, d4, d5, d6, d7, d8, d9, d10⟩, -⟩ := cells11 (blk_new w (.cells #[.int .i64 0, .int .i64 0, .int .i64 0, .int .i64 0, .int .i64 0, .int .i64 0, .int .i64 0, .int .i64 0, .bool false, .slice none 0 0, .slice none 0 0] 65))
  have hle : (xs.length : Int) ≤ 140737488355328 := by omega
  clear hv
  by_cases h1 : 65536 < xs.length
  · have e : unpMsg xs = (zeroMsg, 3) := by unfold unpMsg; rw [if_pos h1]
    obtain ⟨D, hD⟩ : ∃ D : Int, D = xs.length := ⟨_, rfl⟩
    have h1' : 65536 < D := by omega
    have HE := Lib.hid e
    clear e hn
    go_enter Try.func36, Try.ntmps36
    go_wp2_with fail
    have hr := HR.out
    have hb := HB.out
    obtain ⟨WA, hWA⟩ : ∃ W, w.alloc (.cells #[.int .i64 0, .int .i64 0, .int .i64 0, .int .i64 0, .int .i64 0, .int .i64 0, .int .i64 0, .int .i64 0, .bool false, .slice none 0 0, .slice none 0 0] 65) = W := ⟨_, rfl⟩
    rw [hWA] at hr hb ⊢
    clear hWA HR HB d0 d1 d2 d3 d4 d5 d6 d7 d8 d9 d10
    obtain ⟨⟨z0, z1, z2, z3, z4, z5, z6, z7, z8, z9, z10⟩, -⟩ := cells11 hr
    exact bodyPost_ret (v := .tuple #[.agg #[.int .i64 0, .int .i64 0, .int .i64 0, .int .i64 0, .int .i64 0, .int .i64 0, .int .i64 0, .int .i64 0, .bool false, .slice none 0 0, .slice none 0 0], .int .i64 3]) (by simp [results, Try.results36, go_sem, z0, z1, z2, z3, z4, z5, z6, z7, z8, z9, z10]) rfl (unpTo_zero HE.out hb)
  · have h2 : xs.length < 4 := by omega
    have e : unpMsg xs = (zeroMsg, 10) := by unfold unpMsg; rw [if_neg h1, if_pos h2]
    obtain ⟨D, hD⟩ : ∃ D : Int, D = xs.length := ⟨_, rfl⟩
    have h1' : ¬ (65536 < D) := by omega
    have h2' : D < 4 := by omega
    have h0' : 0 ≤ D := by omega
    have HE := Lib.hid e
    clear e hn
    go_enter Try.func36, Try.ntmps36
    go_wp2_with fail
    have hr := HR.out
    have hb := HB.out
    obtain ⟨WA, hWA⟩ : ∃ W, w.alloc (.cells #[.int .i64 0, .int .i64 0, .int .i64 0, .int .i64 0, .int .i64 0, .int .i64 0, .int .i64 0, .int .i64 0, .bool false, .slice none 0 0, .slice none 0 0] 65) = W := ⟨_, rfl⟩
    rw [hWA] at hr hb ⊢
    clear hWA HR HB d0 d1 d2 d3 d4 d5 d6 d7 d8 d9 d10
    obtain ⟨⟨z0, z1, z2, z3, z4, z5, z6, z7, z8, z9, z10⟩, -⟩ := cells11 hr
    exact bodyPost_ret (v := .tuple #[.agg #[.int .i64 0, .int .i64 0, .int .i64 0, .int .i64 0, .int .i64 0, .int .i64 0, .int .i64 0, .int .i64 0, .bool false, .slice none 0 0, .slice none 0 0], .int .i64 10]) (by simp [results, Try.results36, go_sem, z0, z1, z2, z3, z4, z5, z6, z7, z8, z9, z10]) rfl (unpTo_zero HE.out hb)

set_option maxRecDepth 100000 in
set_option maxHeartbeats 1000000 in
theorem qunpackMsg_sum {S : Nat → Prop} (v : Value) (xs : List UInt8) (w : World) (hv : Bytes S w v xs) (h1 : xs.length ≤ 65536) (h2 : 4 ≤ xs.length) (hs : beVal (xs.drop (xs.length - 4)) ≠ crcSum (xs.take (xs.length - 4))) :
    Calls Try.prog 36 #[v] w (UnpTo w xs) := by
  have e : unpMsg xs = (zeroMsg, 12) := by unfold unpMsg; rw [if_neg (by omega), if_neg (by omega), if_pos hs]
  have hb0 := box_below w (.cells #[.int .i64 0, .int .i64 0, .int .i64 0, .int .i64 0, .int .i64 0, .int .i64 0, .int .i64 0, .int .i64 0, .bool false, .slice none 0 0, .slice none 0 0] 65)
  obtain ⟨vb, vo, c, hvv, hvc, hvm, -⟩ := hv.form (by omega)
  subst hvv
  have hb1 := (hv.mid 0 (xs.length - 4) c (by omega) (by omega) hvm).keep hb0
  rw [List.drop_zero, Nat.add_zero] at hb1
  have hg := rget_yes _ xs (xs.length - 4) 4 _ (hv.keep hb0) (by omega) (by omega) (by omega)
  rw [List.take_of_length_le (by simp; omega)] at hg
  have hsum := rsum_any _ _ _ hb1
  have hlt : beVal (xs.drop (xs.length - 4)) < 4294967296 := by have := beVal_lt (xs.drop (xs.length - 4)); rw [List.length_drop, show xs.length - (xs.length - 4) = 4 by omega] at this; simpa using this
  have hsl := crcSum_lt (xs.take (xs.length - 4))

  have HB := Lib.hid hb0
  have hR := blk_new w (.cells #[.int .i64 0, .int .i64 0, .int .i64 0, .int .i64 0, .int .i64 0, .int .i64 0, .int .i64 0, .int .i64 0, .bool false, .slice none 0 0, .slice none 0 0] 65)
  obtain ⟨⟨d0, d1, d2, d3, d4, d5, d6, d7, d8, d9, d10⟩, -⟩ := cells11 hR
  have HR := Lib.hid hR
  obtain ⟨D, hD⟩ : ∃ D : Int, D = xs.length := ⟨_, rfl⟩
  have h1' : ¬ (65536 < D) := by omega
  have h2' : 4 ≤ D := by omega
  generalize beVal (xs.drop (xs.length - 4)) = s1 at *
  generalize crcSum (xs.take (xs.length - 4)) = s2 at *
  obtain ⟨I1, hI1⟩ : ∃ I : Int, I = s1 := ⟨_, rfl⟩
  have i0 : 0 ≤ I1 := by omega
  have i1 : I1 < 4294967296 := by omega
  obtain ⟨I2, hI2⟩ : ∃ I : Int, I = s2 := ⟨_, rfl⟩
  have j0 : 0 ≤ I2 := by omega
  have j1 : I2 < 4294967296 := by omega
  have hne : (I1 != I2) = true := by simp; omega
  rw [← hI1] at hg
  rw [← hI2] at hsum
  have Hg := Lib.hid hg
  have Hsum := Lib.hid hsum
  have HE := Lib.hid e
  clear e hv hg hsum hb1 hb0 hs hI1 hI2 hlt hsl h1 h2 hR
  go_enter Try.func36, Try.ntmps36
  go_wp2_with (first | (go_at_call 77; refine Hg.out.mono ?_; rintro _ _ ⟨rfl, rfl⟩) | (go_at_call 72; refine Hsum.out.mono ?_; rintro _ _ ⟨rfl, rfl⟩))
  have hr := HR.out
  have hb := HB.out
  obtain ⟨WA, hWA⟩ : ∃ W, w.alloc (.cells #[.int .i64 0, .int .i64 0, .int .i64 0, .int .i64 0, .int .i64 0, .int .i64 0, .int .i64 0, .int .i64 0, .bool false, .slice none 0 0, .slice none 0 0] 65) = W := ⟨_, rfl⟩
  rw [hWA] at hr hb ⊢
  clear hWA HR HB d0 d1 d2 d3 d4 d5 d6 d7 d8 d9 d10
  obtain ⟨⟨z0, z1, z2, z3, z4, z5, z6, z7, z8, z9, z10⟩, -⟩ := cells11 hr
  exact bodyPost_ret (v := .tuple #[.agg #[.int .i64 0, .int .i64 0, .int .i64 0, .int .i64 0, .int .i64 0, .int .i64 0, .int .i64 0, .int .i64 0, .bool false, .slice none 0 0, .slice none 0 0], .int .i64 12]) (by simp [results, Try.results36, go_sem, z0, z1, z2, z3, z4, z5, z6, z7, z8, z9, z10]) rfl (unpTo_zero HE.out hb)

set_option maxRecDepth 100000 in
set_option maxHeartbeats 1000000 in
theorem qunpackMsg_none {S : Nat → Prop} (v : Value) (xs : List UInt8) (w : World) (hv : Bytes S w v xs) (_h1 : xs.length ≤ 65536) (h2 : xs.length = 4) (hs : beVal (xs.drop (xs.length - 4)) = crcSum (xs.take (xs.length - 4))) :
    Calls Try.prog 36 #[v] w (UnpTo w xs) := by
  have e : unpMsg xs = (zeroMsg, 11) := by unfold unpMsg; rw [if_neg (by omega), if_neg (by omega), if_neg (by omega), if_pos (.inl h2)]
  have hb0 := box_below w (.cells #[.int .i64 0, .int .i64 0, .int .i64 0, .int .i64 0, .int .i64 0, .int .i64 0, .int .i64 0, .int .i64 0, .bool false, .slice none 0 0, .slice none 0 0] 65)
  obtain ⟨vb, vo, c, hvv, hvc, hvm, -⟩ := hv.form (by omega)
  subst hvv
  have hb1 := (hv.mid 0 (xs.length - 4) c (by omega) (by omega) hvm).keep hb0
  rw [List.drop_zero, Nat.add_zero] at hb1
  have hg := rget_yes _ xs (xs.length - 4) 4 _ (hv.keep hb0) (by omega) (by omega) (by omega)
  rw [List.take_of_length_le (by simp; omega)] at hg
  have hsum := rsum_any _ _ _ hb1
  have hlt : beVal (xs.drop (xs.length - 4)) < 4294967296 := by have := beVal_lt (xs.drop (xs.length - 4)); rw [List.length_drop, show xs.length - (xs.length - 4) = 4 by omega] at this; simpa using this
  have hsl := crcSum_lt (xs.take (xs.length - 4))

  have HB := Lib.hid hb0
  have hR := blk_new w (.cells #[.int .i64 0, .int .i64 0, .int .i64 0, .int .i64 0, .int .i64 0, .int .i64 0, .int .i64 0, .int .i64 0, .bool false, .slice none 0 0, .slice none 0 0] 65)
  obtain ⟨⟨d0, d1, d2, d3, d4, d5, d6, d7, d8, d9, d10⟩, -⟩ := cells11 hR
  have HR := Lib.hid hR
  obtain ⟨D, hD⟩ : ∃ D : Int, D = xs.length := ⟨_, rfl⟩
  have h1' : ¬ (65536 < D) := by omega
  have h2' : 4 ≤ D := by omega
  rw [hs] at hlt
  rw [hs] at hg
  obtain ⟨F, hF⟩ : ∃ F, F = xs.take (xs.length - 4) := ⟨_, rfl⟩
  have hFl : F.length = xs.length - 4 := by rw [hF, List.length_take]; omega
  rw [← hF] at hg hsum hlt hb1
  generalize crcSum F = s1 at *
  obtain ⟨I1, hI1⟩ : ∃ I : Int, I = s1 := ⟨_, rfl⟩
  have i0 : 0 ≤ I1 := by omega
  have i1 : I1 < 4294967296 := by omega
  rw [← hI1] at hg hsum
  rw [show xs.length - 4 = 0 by omega] at hg hsum
  have Hg := Lib.hid hg
  have Hsum := Lib.hid hsum
  have HE := Lib.hid e
  have hz : (((xs.length - 4 : Nat) : Int) == 0) = true := by rw [show xs.length - 4 = 0 by omega]; rfl
  have h24 : xs.length ≤ 4 := by omega
  clear e hv hg hsum hb1 hb0 hs hI1 hlt hsl _h1 h2 hR hF hFl
  go_enter Try.func36, Try.ntmps36
  go_wp2_with (first | (go_at_call 77; refine Hg.out.mono ?_; rintro _ _ ⟨rfl, rfl⟩) | (go_at_call 72; refine Hsum.out.mono ?_; rintro _ _ ⟨rfl, rfl⟩))
  have hr := HR.out
  have hb := HB.out
  obtain ⟨WA, hWA⟩ : ∃ W, w.alloc (.cells #[.int .i64 0, .int .i64 0, .int .i64 0, .int .i64 0, .int .i64 0, .int .i64 0, .int .i64 0, .int .i64 0, .bool false, .slice none 0 0, .slice none 0 0] 65) = W := ⟨_, rfl⟩
  rw [hWA] at hr hb ⊢
  clear hWA HR HB d0 d1 d2 d3 d4 d5 d6 d7 d8 d9 d10
  obtain ⟨⟨z0, z1, z2, z3, z4, z5, z6, z7, z8, z9, z10⟩, -⟩ := cells11 hr
  exact bodyPost_ret (v := .tuple #[.agg #[.int .i64 0, .int .i64 0, .int .i64 0, .int .i64 0, .int .i64 0, .int .i64 0, .int .i64 0, .int .i64 0, .bool false, .slice none 0 0, .slice none 0 0], .int .i64 11]) (by simp [results, Try.results36, go_sem, z0, z1, z2, z3, z4, z5, z6, z7, z8, z9, z10]) rfl (unpTo_zero HE.out hb)

set_option maxRecDepth 100000 in
set_option maxHeartbeats 1000000 in
theorem qunpackMsg_mark {S : Nat → Prop} (v : Value) (xs : List UInt8) (w : World) (hv : Bytes S w v xs) (h1 : xs.length ≤ 65536) (h2 : 4 < xs.length) (hs : beVal (xs.drop (xs.length - 4)) = crcSum (xs.take (xs.length - 4))) (hm : xs.headD 0 ≠ 202) :
    Calls Try.prog 36 #[v] w (UnpTo w xs) := by
  have e : unpMsg xs = (zeroMsg, 11) := by unfold unpMsg; rw [if_neg (by omega), if_neg (by omega), if_neg (by omega), if_pos (.inr hm)]
  have hb0 := box_below w (.cells #[.int .i64 0, .int .i64 0, .int .i64 0, .int .i64 0, .int .i64 0, .int .i64 0, .int .i64 0, .int .i64 0, .bool false, .slice none 0 0, .slice none 0 0] 65)
  obtain ⟨vb, vo, c, hvv, hvc, hvm, -⟩ := hv.form (by omega)
  subst hvv
  have hb1 := (hv.mid 0 (xs.length - 4) c (by omega) (by omega) hvm).keep hb0
  rw [List.drop_zero, Nat.add_zero] at hb1
  have hg := rget_yes _ xs (xs.length - 4) 4 _ (hv.keep hb0) (by omega) (by omega) (by omega)
  rw [List.take_of_length_le (by simp; omega)] at hg
  have hsum := rsum_any _ _ _ hb1
  have hlt : beVal (xs.drop (xs.length - 4)) < 4294967296 := by have := beVal_lt (xs.drop (xs.length - 4)); rw [List.length_drop, show xs.length - (xs.length - 4) = 4 by omega] at this; simpa using this
  have hsl := crcSum_lt (xs.take (xs.length - 4))

  have HB := Lib.hid hb0
  have hR := blk_new w (.cells #[.int .i64 0, .int .i64 0, .int .i64 0, .int .i64 0, .int .i64 0, .int .i64 0, .int .i64 0, .int .i64 0, .bool false, .slice none 0 0, .slice none 0 0] 65)
  obtain ⟨⟨d0, d1, d2, d3, d4, d5, d6, d7, d8, d9, d10⟩, -⟩ := cells11 hR
  have HR := Lib.hid hR
  obtain ⟨D, hD⟩ : ∃ D : Int, D = xs.length := ⟨_, rfl⟩
  have h1' : ¬ (65536 < D) := by omega
  have h2' : 4 ≤ D := by omega
  rw [hs] at hlt
  rw [hs] at hg
  obtain ⟨F, hF⟩ : ∃ F, F = xs.take (xs.length - 4) := ⟨_, rfl⟩
  have hFl : F.length = xs.length - 4 := by rw [hF, List.length_take]; omega
  rw [← hF] at hg hsum hlt hb1
  generalize crcSum F = s1 at *
  obtain ⟨I1, hI1⟩ : ∃ I : Int, I = s1 := ⟨_, rfl⟩
  have i0 : 0 ≤ I1 := by omega
  have i1 : I1 < 4294967296 := by omega
  rw [← hI1] at hg hsum
  have Hg := Lib.hid hg
  have Hsum := Lib.hid hsum
  obtain ⟨x, G, hxG⟩ : ∃ x G, F = x :: G := by
    cases F with
    | nil => simp at hFl; omega
    | cons x G => exact ⟨x, G, rfl⟩
  have hx : xs.headD 0 = x := by
    have h3 : xs = F ++ xs.drop (xs.length - 4) := by rw [hF, List.take_append_drop]
    rw [h3, hxG]
    rfl
  obtain ⟨fb, fo, fc, hfv, hfn, hfc, -, hfl, hfcell⟩ := hb1.form (by omega)
  injection hfv with hfv1 hfvn hfv3
  injection hfv1 with hfv1
  injection hfv1 with hfv1 hfv2 _
  subst hfv1 hfv2 hfv3
  clear hfvn
  have c0 := hfcell 0 (.int .u8 x.toNat) (by rw [hxG]; rfl)
  rw [Nat.add_zero] at c0
  have hN0 : 0 < xs.length - 4 := by omega
  have hz : (((xs.length - 4 : Nat) : Int) == 0) = false := by simp only [beq_eq_false_iff_ne, ne_eq]; omega
  have h24 : 4 < xs.length := h2
  clear hfcell hfn hfl hfc
  rw [hx] at hm
  have hx2 : ((x.toNat : Int) != 202) = true := by
    simp
    intro h
    apply hm
    apply UInt8.toNat_inj.1
    show x.toNat = 202
    omega
  have HE := Lib.hid e
  clear e hv hg hsum hb1 hb0 hs hI1 hlt hsl h1 h2 hR hF hFl hm hx hxG
  go_enter Try.func36, Try.ntmps36
  go_wp2_with (first | (go_at_call 77; refine Hg.out.mono ?_; rintro _ _ ⟨rfl, rfl⟩) | (go_at_call 72; refine Hsum.out.mono ?_; rintro _ _ ⟨rfl, rfl⟩))
  have hr := HR.out
  have hb := HB.out
  obtain ⟨WA, hWA⟩ : ∃ W, w.alloc (.cells #[.int .i64 0, .int .i64 0, .int .i64 0, .int .i64 0, .int .i64 0, .int .i64 0, .int .i64 0, .int .i64 0, .bool false, .slice none 0 0, .slice none 0 0] 65) = W := ⟨_, rfl⟩
  rw [hWA] at hr hb ⊢
  clear hWA HR HB d0 d1 d2 d3 d4 d5 d6 d7 d8 d9 d10
  obtain ⟨⟨z0, z1, z2, z3, z4, z5, z6, z7, z8, z9, z10⟩, -⟩ := cells11 hr
  exact bodyPost_ret (v := .tuple #[.agg #[.int .i64 0, .int .i64 0, .int .i64 0, .int .i64 0, .int .i64 0, .int .i64 0, .int .i64 0, .int .i64 0, .bool false, .slice none 0 0, .slice none 0 0], .int .i64 11]) (by simp [results, Try.results36, go_sem, z0, z1, z2, z3, z4, z5, z6, z7, z8, z9, z10]) rfl (unpTo_zero HE.out hb)
end Go.Proofs.Ytoaoldhajpbenaa

namespace Go.Proofs.Ytoaoldhajpbenaa
open Go.RowKit

/-- The walk over a message's fields: its reader in block g, the message so far in block M; the result's block is W0's next. -/
def Qr (W0 : World) (S : Nat → Prop) (g M : Nat) (w : World) (st : List UInt8 × Int) (cs : Array Value) : Prop :=
  RdAt 133 S w g st.1 st.2 ∧ w.heap[M]? = some (.cells cs 65 (0, 0)) ∧
  w.heap[W0.heap.size]? = some (.cells #[.int .i64 0, .int .i64 0, .int .i64 0, .int .i64 0, .int .i64 0, .int .i64 0, .int .i64 0, .int .i64 0, .bool false, .slice none 0 0, .slice none 0 0] 65 (0, 0)) ∧
  Below W0.heap.size W0 w ∧ ¬ S M ∧ g ≠ M ∧ W0.heap.size < g ∧ W0.heap.size < M
theorem Qr.num {W0 w w' : World} {S : Nat → Prop} {g M : Nat} {st st' : List UInt8 × Int} {cs : Array Value} (h : Qr W0 S g M w st cs) (hr : RdAt 133 S w' g st'.1 st'.2) (hg : w.grownBy w' (some g)) : Qr W0 S g M w' st' cs := by
  obtain ⟨h1, h2, h3, h4, h5, h6, h7, h8⟩ := h
  exact ⟨hr, grown_blk hg (by intro e; injection e with e; omega) h2, grown_blk hg (by intro e; injection e with e; omega) h3, h4.grown hg h4.size (by intro k hk; injection hk with hk; omega), h5, h6, h7, h8⟩
theorem Qr.set {W0 w : World} {S : Nat → Prop} {g M : Nat} {st : List UInt8 × Int} {cs : Array Value} (h : Qr W0 S g M w st cs) (k : Nat) (u : Value) : Qr W0 S g M (w.setCell ⟨M, k, none⟩ u) st (cs.setIfInBounds k u) := by
  obtain ⟨h1, h2, h3, h4, h5, h6, h7, h8⟩ := h
  refine ⟨h1.set h5 h6 u, ?_, (Below.heap_setCell w ⟨M, k, none⟩ u _ (by simp; omega)).trans h3, h4.setCell (p := ⟨M, k, none⟩) (by simp; omega) u, h5, h6, h7, h8⟩
  simp [World.setCell, Array.getElem?_modify, h2]
theorem Qr.below {W0 w w' : World} {S : Nat → Prop} {g M : Nat} {st : List UInt8 × Int} {cs : Array Value} (h : Qr W0 S g M w st cs) (hb : Below w.heap.size w w') : Qr W0 S g M w' st cs := by
  obtain ⟨h1, h2, h3, h4, h5, h6, h7, h8⟩ := h
  exact ⟨h1.keep hb, blk_keep hb h2, blk_keep hb h3, h4.trans (hb.mono h4.size), h5, h6, h7, h8⟩

/-- The walk over a message's entries: those so far, in a row of their own. -/
def Ql (W0 : World) (g M : Nat) (w : World) (st : List UInt8 × Int) (cs : Array Value) (vL : Value) (es : List Ent) : Prop :=
  Qr W0 (SL W0 g M vL) g M w st cs ∧ ∃ es', w.ownsRow (W0.heap.size + 1) 33 3 vL es.length es' ∧ EntCells (SL W0 g M vL) w es es'
theorem Ql.below {W0 w w' : World} {g M : Nat} {st : List UInt8 × Int} {cs : Array Value} {vL : Value} {es : List Ent} (h : Ql W0 g M w st cs vL es) (hb : Below w.heap.size w w') : Ql W0 g M w' st cs vL es := by
  obtain ⟨h1, es', h2, h3⟩ := h
  exact ⟨h1.below hb, es', own_keep h2 hb, h3.keepS (Same.of_below' hb _)⟩
theorem Ql.set {W0 w : World} {g M : Nat} {st : List UInt8 × Int} {cs : Array Value} {vL : Value} {es : List Ent} (h : Ql W0 g M w st cs vL es) (k : Nat) (u : Value) : Ql W0 g M (w.setCell ⟨M, k, none⟩ u) st (cs.setIfInBounds k u) vL es := by
  obtain ⟨h1, es', h2, h3⟩ := h
  exact ⟨h1.set k u, es', own_put h2 h1.2.1 (by decide) u, h3.keepS ((Same.refl _ _).setCell h1.2.2.2.2.1 _)⟩
theorem Ql.fresh {W0 w : World} {g M : Nat} {st : List UInt8 × Int} {cs : Array Value} {vL : Value} {es : List Ent} (h : Ql W0 g M w st cs vL es) : ∀ b, w.heap.size ≤ b → SL W0 g M vL b := by
  obtain ⟨⟨⟨hS, v, hblk, hby⟩, a2, a3, a4, a5, a6, a7, a8⟩, es', h2, h3⟩ := h
  have hgl : g < w.heap.size := (Array.getElem?_eq_some_iff.1 hblk).1
  have hml : M < w.heap.size := (Array.getElem?_eq_some_iff.1 a2).1
  have hrl : W0.heap.size < w.heap.size := (Array.getElem?_eq_some_iff.1 a3).1
  intro b hb
  refine ⟨by omega, by omega, by omega, ?_⟩
  intro hk
  have := own_lt h2 b hk
  omega
theorem ql_entry {W0 w : World} {g M : Nat} {st st' : List UInt8 × Int} {cs : Array Value} {vL : Value} {es : List Ent} {en : Ent} (h : Ql W0 g M w st cs vL es) (he : (en, st') = rdEnt st) (h47 : st.1.length ≤ 140737488355328) :
    Calls Try.prog 61 #[.pointer (some ⟨g, 0, none⟩)] w fun e w' => ∃ u, e = .returned (.tuple #[.agg #[.int .i64 en.kind, .int .i64 en.term, u], .bool (rightB en)]) ∧ Ql W0 g M w' st' cs vL es ∧ Bytes (SL W0 g M vL) w' u en.cmd := by
  have hn := qget_any (SL W0 g M vL) g st.1 st.2 w h.1.1 h.fresh h47
  rw [show (st.1, st.2) = st from rfl, ← he] at hn
  refine hn.mono ?_
  rintro _ w' ⟨u, rfl, hown, hr, hg⟩
  obtain ⟨h1, es', h2, h3⟩ := h
  have h1' := h1
  obtain ⟨⟨hS, v, hblk, hby⟩, a2, a3, a4, a5, a6, a7, a8⟩ := h1
  have hgl : g < w.heap.size := (Array.getElem?_eq_some_iff.1 hblk).1
  have hml : M < w.heap.size := (Array.getElem?_eq_some_iff.1 a2).1
  have hrl : W0.heap.size < w.heap.size := (Array.getElem?_eq_some_iff.1 a3).1
  refine ⟨u, rfl, ⟨h1'.num hr hg, es', h2.kept (row := some g) hg (.inr (own_ne h2 hblk (by decide))), h3.keepS (same_grownG hg hS)⟩, (RowAt.of_own hown).mono fun b _ hb => ⟨?_, ?_, ?_, ?_⟩⟩
  · omega
  · omega
  · omega
  · intro hk
    have := own_lt h2 b hk
    omega
theorem ql_push {W0 w w' : World} {g M g3 cap : Nat} {st : List UInt8 × Int} {cs : Array Value} {vL u : Value} {es : List Ent} {en : Ent} {es' : List Value} (h1 : Qr W0 (SL W0 g M vL) g M w st cs) (h2 : w.ownsRow (W0.heap.size + 1) 33 3 vL es.length es') (h3 : EntCells (SL W0 g M vL) w es es')
    (hu : Bytes (SL W0 g M vL) w u en.cmd) (hk : in64 en.kind) (ht : in64 en.term)
    (hn : w'.ownsRow (W0.heap.size + 1) 33 3 (.slice (some ⟨g3, 0, none⟩) (es.length + 1) cap) (es.length + 1) (es' ++ [.int .i64 en.kind, .int .i64 en.term, u])) (hg : w.grownBy w' vL.ownBlock) (hat : vL.ownBlock = some g3 ∨ g3 = w.heap.size) :
    Ql W0 g M w' st cs (.slice (some ⟨g3, 0, none⟩) (es.length + 1) cap) (es ++ [en]) := by
  obtain ⟨hR, a2, a3, a4, a5, a6, a7, a8⟩ := h1
  have hS3 : ∀ b, b < w.heap.size → SL W0 g M vL b → SL W0 g M vL b ∧ b ≠ g3 := by
    intro b hb hs
    refine ⟨hs, ?_⟩
    rintro rfl
    rcases hat with h | h
    · exact hs.2.2.2 h
    · omega
  have hsame : Same (fun b => SL W0 g M vL b ∧ b ≠ g3) w w' := same_grownO hg fun k hk hs => hs.1.2.2.2 hk
  have hT : ∀ b, b < w'.heap.size → SL W0 g M vL b ∧ b ≠ g3 → SL W0 g M (.slice (some ⟨g3, 0, none⟩) (es.length + 1) cap) b := by
    intro b _ hs
    refine ⟨hs.1.1, hs.1.2.1, hs.1.2.2.1, ?_⟩
    intro hk
    exact hs.2 (by simpa [Value.ownBlock] using hk.symm)
  have hgS : ¬ SL W0 g M (.slice (some ⟨g3, 0, none⟩) (es.length + 1) cap) g := fun hs => hs.2.1 rfl
  have hMS : ¬ SL W0 g M (.slice (some ⟨g3, 0, none⟩) (es.length + 1) cap) M := fun hs => hs.2.2.1 rfl
  have hR' := hR
  obtain ⟨hS, v, hblk, hby⟩ := hR'
  have hge : ∀ k, vL.ownBlock = some k → W0.heap.size + 1 ≤ k := own_blk_ge h2
  refine ⟨⟨⟨hgS, v, grown_blk hg (fun e => own_ne h2 hblk (by decide) e.symm) hblk, ((hby.mono hS3).keepS hsame).mono hT⟩, grown_blk hg (fun e => own_ne h2 a2 (by decide) e.symm) a2, grown_blk hg (fun e => own_ne h2 a3 (by decide) e.symm) a3,
    a4.grown hg a4.size (fun k hk => by have := hge k hk; omega), hMS, a6, a7, a8⟩, _, by rw [List.length_append]; exact hn, ?_⟩
  refine EntCells.append (((h3.mono hS3).keepS hsame).mono hT) ⟨u, [], rfl, hk, ht, ((hu.mono hS3).keepS hsame).mono hT, rfl⟩

/-- The walk over a message's fields, its data too. -/
def Qf (W0 : World) (g M : Nat) (w : World) (st : List UInt8 × Int) (cs : Array Value) (vL : Value) (es : List Ent) (vd : Value) (d : List UInt8) : Prop :=
  Ql W0 g M w st cs vL es ∧ Bytes (SL W0 g M vL) w vd d
theorem Qf.below {W0 w w' : World} {g M : Nat} {st : List UInt8 × Int} {cs : Array Value} {vL vd : Value} {es : List Ent} {d : List UInt8} (h : Qf W0 g M w st cs vL es vd d) (hb : Below w.heap.size w w') : Qf W0 g M w' st cs vL es vd d := ⟨h.1.below hb, h.2.keep hb⟩
theorem Qf.set {W0 w : World} {g M : Nat} {st : List UInt8 × Int} {cs : Array Value} {vL vd : Value} {es : List Ent} {d : List UInt8} (h : Qf W0 g M w st cs vL es vd d) (k : Nat) (u : Value) : Qf W0 g M (w.setCell ⟨M, k, none⟩ u) st (cs.setIfInBounds k u) vL es vd d :=
  ⟨h.1.set k u, h.2.keepS ((Same.refl _ _).setCell (fun hs => hs.2.2.1 rfl) _)⟩
theorem Qf.msg {W0 w : World} {g M : Nat} {st : List UInt8 × Int} {cs : Array Value} {vL vd : Value} {m : Msg} (h : Qf W0 g M w st cs vL m.l vd m.data) (hm : in64 m.kind ∧ in64 m.src ∧ in64 m.dst ∧ in64 m.term ∧ in64 m.at_ ∧ in64 m.atTerm ∧ in64 m.commit ∧ in64 m.round) : MsgAt (W0.heap.size + 1 ≤ ·) w m vL vd := by
  obtain ⟨⟨h1, es', h2, h3⟩, h4⟩ := h
  exact ⟨⟨es', RowAt.of_own h2, h3.mono fun b _ hs => hs.1⟩, h4.mono fun b _ hs => hs.1, hm⟩
theorem ql_bytes {W0 w : World} {g M : Nat} {st st' : List UInt8 × Int} {cs : Array Value} {vL : Value} {es : List Ent} {d : List UInt8} (h : Ql W0 g M w st cs vL es) (he : (d, st') = rdBytes 4 st) (h47 : st.1.length ≤ 140737488355328) :
    Calls Try.prog 80 #[.pointer (some ⟨g, 0, none⟩), .int .i64 4] w fun e w' => ∃ u, e = .returned u ∧ Qf W0 g M w' st' cs vL es u d := by
  have hn := rrbytes_any (SL W0 g M vL) g st.1 st.2 4 w h.1.1 h.fresh (by omega) h47
  rw [show (st.1, st.2) = st from rfl, ← he] at hn
  refine hn.mono ?_
  rintro _ w' ⟨u, rfl, hown, hr, hg⟩
  obtain ⟨h1, es', h2, h3⟩ := h
  have h1' := h1
  obtain ⟨⟨hS, v, hblk, hby⟩, a2, a3, a4, a5, a6, a7, a8⟩ := h1
  have hgl : g < w.heap.size := (Array.getElem?_eq_some_iff.1 hblk).1
  have hml : M < w.heap.size := (Array.getElem?_eq_some_iff.1 a2).1
  have hrl : W0.heap.size < w.heap.size := (Array.getElem?_eq_some_iff.1 a3).1
  refine ⟨u, rfl, ⟨h1'.num hr hg, es', h2.kept (row := some g) hg (.inr (own_ne h2 hblk (by decide))), h3.keepS (same_grownG hg hS)⟩, (RowAt.of_own hown).mono fun b _ hb => ⟨?_, ?_, ?_, ?_⟩⟩
  · omega
  · omega
  · omega
  · intro hk
    have := own_lt h2 b hk
    omega
theorem rdEnt_len (st : List UInt8 × Int) : (rdEnt st).2.1.length ≤ st.1.length :=
  Nat.le_trans (rdBytes_len 2 _) (Nat.le_trans (rdNum_len 6 _) (rdNum_len 1 st))
theorem rdEnts_len : ∀ (k : Nat) (st : List UInt8 × Int), (rdEnts k st).2.1.length ≤ st.1.length
  | 0, _ => Nat.le_refl _
  | k + 1, st => Nat.le_trans (rdEnts_len k _) (rdEnt_len st)
theorem rdCount_len (size most : Nat) (st : List UInt8 × Int) : (rdCount size most st).2.1.length ≤ st.1.length := by
  unfold rdCount
  by_cases he : st.2 ≠ 0
  · rw [if_pos he]; exact Nat.le_refl _
  · rw [if_neg he]
    by_cases h1 : st.1.length < size
    · rw [if_pos h1]; exact Nat.le_refl _
    · rw [if_neg h1]
      by_cases h2 : (most : Int) < (rdNum size st).1
      · rw [if_pos h2]; exact Nat.le_refl _
      · rw [if_neg h2]
        by_cases h3 : ((rdNum size st).2.1.length : Int) < (rdNum size st).1
        · rw [if_pos h3]; exact Nat.le_refl _
        · rw [if_neg h3]; exact rdNum_len size st
theorem rdNums_left : ∀ (zs : List Nat) (st : List UInt8 × Int), (rdNums zs st).2.1.length ≤ st.1.length
  | [], _ => Nat.le_refl _
  | z :: zs, st => Nat.le_trans (rdNums_left zs _) (rdNum_len z st)
end Go.Proofs.Ytoaoldhajpbenaa

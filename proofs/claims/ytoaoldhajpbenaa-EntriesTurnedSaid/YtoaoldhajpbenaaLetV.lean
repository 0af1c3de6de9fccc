/- The law EntriesTurned walked. No statement is proved here. -/
import Derived.Test.YtoaoldhajpbenaaLetT
import Derived.Test.YtoaoldhajpbenaaQOpnA
namespace Go.Proofs.Ytoaoldhajpbenaa
open Go.RowKit

theorem cnt_any (n m : Int) (w : World) (_hn : in64 n) (hm : 0 < m) (hm2 : m ≤ 4611686018427387904) :
    Calls Try.prog 38 #[.int .i64 n, .int .i64 m] w fun e w' => (∃ r : Int, e = .returned (.int .i64 r) ∧ 0 ≤ r ∧ r < m) ∧ w = w' := by
  have h1 := Int.tmod_lt_of_pos n hm
  have h2 := Int.lt_tmod_of_pos n hm
  have h0 : m ≠ 0 := by omega
  obtain ⟨r, hr⟩ : ∃ r, r = n.tmod m := ⟨_, rfl⟩
  rw [← hr] at h1 h2
  by_cases hneg : r < 0
  · go_enter Try.func38, Try.ntmps38
    have hr2 := hr.symm
    clear hr
    go_wp2_with fail
    go_ret
    exact ⟨⟨_, rfl, by omega, by omega⟩, rfl⟩
  · go_enter Try.func38, Try.ntmps38
    have hr2 := hr.symm
    clear hr
    go_wp2_with fail
    go_ret
    exact ⟨⟨_, rfl, by omega, by omega⟩, rfl⟩

theorem bit_cond (b : Int) (k : Nat) (h0 : 0 ≤ b) (h1 : b < 4294967296) : (bits BinOp.and .u32 (b / 2 ^ k) 1 == 1) = (((b.toNat / 2 ^ k % 2 : Nat) : Int) == 1) := by
  have e : b / 2 ^ k = ((b.toNat / 2 ^ k : Nat) : Int) := by
    rw [Int.natCast_ediv, Int.toNat_of_nonneg h0]
    simp
  have hlt : b.toNat / 2 ^ k < 4294967296 := Nat.lt_of_le_of_lt (Nat.div_le_self _ _) (by omega)
  have h := and_u32 (b.toNat / 2 ^ k) 1 hlt (by decide)
  rw [e]
  rw [show ((1 : Nat) : Int) = 1 from rfl] at h
  rw [h, Nat.and_one_is_mod]
theorem xor_byte (a : UInt8) (s : Nat) (hs : s < 8) : bits BinOp.xor .u8 (a.toNat : Int) (2 ^ s % 256) = ((a ^^^ UInt8.ofNat (2 ^ s)).toNat : Int) := by
  have h1 : (2 : Nat) ^ s < 256 := Nat.pow_lt_pow_right (by decide : 1 < 2) hs
  have e : ((2 : Int) ^ s % 256) = ((2 ^ s : Nat) : Int) := by
    have key : ∀ s : Fin 8, ((2 : Int) ^ s.val % 256) = ((2 ^ s.val : Nat) : Int) := by decide
    exact key ⟨s, hs⟩
  have e2 : (UInt8.ofNat (2 ^ s)).toNat = 2 ^ s := Nat.mod_eq_of_lt h1
  have ha := a.toNat_lt
  have ha' : a.toNat % 2 ^ IntKind.u8.bits = a.toNat := Nat.mod_eq_of_lt ha
  have hb' : 2 ^ s % 2 ^ IntKind.u8.bits = 2 ^ s := Nat.mod_eq_of_lt h1
  have hx : a.toNat ^^^ 2 ^ s < 2 ^ 8 := Nat.xor_lt_two_pow ha h1
  rw [e, UInt8.toNat_xor, e2]
  simp only [bits, BitVec.ofInt_natCast, BitVec.toNat_xor, BitVec.toNat_ofNat, ha', hb']
  rw [IntKind.wrap_u8]
  omega
theorem byteCells_set (c : List UInt8) (j : Nat) (x : UInt8) : (byteCells c).set j (.int .u8 (x.toNat : Int)) = byteCells (c.set j x) := by
  unfold byteCells
  rw [List.map_set]
theorem turn_more (b k : Nat) (h : b % 2 ^ k ≠ 0) : b % 2 ^ (k + 1) ≠ 0 := by
  rw [Nat.pow_succ, Nat.mod_mul]; omega
theorem turn_pos (b k : Nat) (h : b / 2 ^ k % 2 = 1) : b % 2 ^ (k + 1) ≠ 0 := by
  rw [Nat.pow_succ, Nat.mod_mul, h]
  have := Nat.two_pow_pos k
  omega
theorem turn_end (X c : List UInt8) (b P k : Nat) (m3 : Msg) (f3 : Int) (hl : c.length = X.length) (h4 : 4 ≤ X.length) (h65 : X.length ≤ 65536) (hn : num c = num X ^^^ (b % 2 ^ k) * 2 ^ P) (hB : b % 2 ^ k ≠ 0) (hk : k ≤ 32)
    (hc : P + k ≤ 8 * (X.length - 4) ∨ 8 * (X.length - 4) ≤ P) (hs : beVal (X.drop (X.length - 4)) = crcSum (X.take (X.length - 4))) (hu : unpMsg c = (m3, f3)) : f3 ≠ 0 := by
  have hlt : b % 2 ^ k < 2 ^ k := Nat.mod_lt _ (Nat.two_pow_pos k)
  have h32 : 2 ^ k ≤ 2 ^ 32 := Nat.pow_le_pow_right (by decide) hk
  have ht := turned_told X c P (b % 2 ^ k) hl h4 hn hB (Nat.lt_of_lt_of_le hlt h32) (by
    rcases hc with h | h
    · left
      have h1 : b % 2 ^ k * 2 ^ P < 2 ^ k * 2 ^ P := Nat.mul_lt_mul_of_pos_right hlt (Nat.two_pow_pos P)
      rw [← Nat.pow_add] at h1
      exact Nat.lt_of_lt_of_le h1 (Nat.pow_le_pow_right (by decide) (by omega))
    · exact .inr h) hs
  unfold unpMsg at hu
  rw [if_neg (by omega), if_neg (by omega), if_pos ht] at hu
  injection hu with _ hu
  omega
theorem own_form {w : World} {B n : Nat} {u : Value} {cs : List Value} (h : w.ownsRow B 5 1 u n cs) (hn : 0 < n) : ∃ g cap, u = .slice (some ⟨g, 0, none⟩) n cap := by
  rcases h.2 with ⟨_, h⟩ | ⟨g, cap, cur, h, _⟩
  · omega
  · exact ⟨g, cap, h⟩

set_option maxRecDepth 100000 in
set_option maxHeartbeats 4000000 in
theorem entriesTurned_any {S : Nat → Prop} (m : Msg) (vl vd : Value) (at_ b cut : Int) (w : World) (hm : MsgAt S w m vl vd) (hf : Fine m) (hat : in64 at_) (hb0 : 0 ≤ b) (hb1 : b < 4294967296) (hcut : in64 cut) :
    Calls Try.prog 10 #[.agg #[.int .i64 m.kind, .int .i64 m.src, .int .i64 m.dst, .int .i64 m.term, .int .i64 m.at_, .int .i64 m.atTerm, .int .i64 m.commit, .int .i64 m.round, .bool m.yes, vl, vd], .int .i64 at_, .int .u32 b, .int .i64 cut] w fun e w' => e = .returned (.bool true) ∧ Below w.heap.size w w' := by
  have hpf := packM_back m
  obtain ⟨⟨X, pe⟩, hX⟩ : ∃ p, packM m = p := ⟨_, rfl⟩
  rw [hX] at hpf
  simp only at hpf
  have b10 := box_below w (.cells #[.int .i64 m.kind, .int .i64 m.src, .int .i64 m.dst, .int .i64 m.term, .int .i64 m.at_, .int .i64 m.atTerm, .int .i64 m.commit, .int .i64 m.round, .bool m.yes, vl, vd] 65)
  have E1 := blk_new w (.cells #[.int .i64 m.kind, .int .i64 m.src, .int .i64 m.dst, .int .i64 m.term, .int .i64 m.at_, .int .i64 m.atTerm, .int .i64 m.commit, .int .i64 m.round, .bool m.yes, vl, vd] 65)
  obtain ⟨W1, hW1⟩ : ∃ W, w.alloc (.cells #[.int .i64 m.kind, .int .i64 m.src, .int .i64 m.dst, .int .i64 m.term, .int .i64 m.at_, .int .i64 m.atTerm, .int .i64 m.commit, .int .i64 m.round, .bool m.yes, vl, vd] 65) = W := ⟨_, rfl⟩
  rw [hW1] at b10 E1
  have HB1 := Lib.hid b10
  have HPK := Lib.hid (packTo (S := S) m X pe _ _ W1 hX (hm.keep b10) hf)
  obtain ⟨A, cA, rfl⟩ := hm.1.slice
  obtain ⟨D, cD, rfl⟩ := hm.2.1.slice
  obtain ⟨⟨e0, e1, e2, e3, e4, e5, e6, e7, e8, e9, e10⟩, -⟩ := cells11 E1
  have Hpf := Lib.hid hpf
  have Hat := Lib.hid hat
  have Hcut := Lib.hid hcut
  clear b10 hm hf hX hpf E1 hat hcut
  go_enter Try.func10, Try.ntmps10
  go_wp2_with fail
  refine HPK.out.mono ?_
  rintro _ W2 ⟨x, rfl, hx, hb⟩
  have HB2 := Lib.hid (below_then HB1.out hb)
  have HX := Lib.hid hx
  obtain ⟨AX, cX, rfl⟩ := hx.slice
  clear hx hb HPK hW1 e0 e1 e2 e3 e4 e5 e6 e7 e8 e9 e10
  by_cases hpe : pe = 0
  · subst hpe
    obtain ⟨hun, hxl, hx4, hxs⟩ := Hpf.out rfl
    have hx65 : X.length ≤ 65536 := by
      rcases Nat.lt_or_ge 65536 X.length with h | h
      · unfold unpMsg at hun; rw [if_pos h] at hun; injection hun with _ h2; simp at h2
      · exact h
    have Hxs := Lib.hid hxs
    obtain ⟨L, hL⟩ : ∃ L : Nat, L = X.length := ⟨_, rfl⟩
    have HLX := Lib.hid hL
    rw [← hL] at hx4 hx65 HX
    rw [← hL]
    have hL8 : (L : Int) ≠ 0 := by omega
    have HCP := Lib.hid (cnt_any at_ (8 * (L : Int)) W2 Hat.out (by omega) (by omega))
    clear hun hxl hxs hL
    go_wp2_with fail
    refine HCP.out.mono ?_
    rintro _ _ ⟨⟨p, rfl, hp0, hp1⟩, rfl⟩
    by_cases hpe : p ≥ 8 * ((L : Int) - 4)
    · obtain ⟨E, hE⟩ : ∃ E : Int, E = 8 * (L : Int) := ⟨_, rfl⟩
      have HE := Lib.hid hE
      clear hE
      go_wp2_with (at_builtin; refine wpList_append_bytes (S := (W1.heap.size ≤ ·)) _ rfl _ _ rfl _ _ rfl rfl W2.heap.size 0 [] (World.ownsRow_nil _ _ _ _) X HX.out (by have := HLX.out; omega) (Nat.le_refl _) ?_; intro u1 w1 hown hgr _; have hb2 := (Below.refl W2.heap.size W2).grown hgr (Nat.le_refl _) (own_blk_ge (World.ownsRow_nil W2 W2.heap.size 5 1)); rw [Nat.zero_add, List.nil_append, ← HLX.out] at hown; obtain ⟨g, cap, rfl⟩ := own_form hown (by omega); have Hown := Lib.hid hown; have Hb2 := Lib.hid hb2; clear hown hgr hb2)
      go_loopw [13, 14] (fun s13 s14 wr => ∃ (k : Nat) (c : List UInt8) (ab : Bool), s14 = .int .i64 k ∧ s13 = .bool ab ∧ Hid (ab = true → b.toNat % 2 ^ k ≠ 0) ∧ k ≤ 32 ∧ p + k ≤ E ∧ Hid (c.length = L ∧ num c = num X ^^^ (b.toNat % 2 ^ k) * 2 ^ p.toNat) ∧ Hid (wr.ownsRow W2.heap.size 5 1 (.slice (some ⟨g, 0, none⟩) L cap) L (byteCells c)) ∧ Hid (Below W2.heap.size W2 wr)) (fun _ s14 _ => 32 - (intOf s14).toNat)
      case atStart => exact ⟨0, X, false, rfl, rfl, Lib.hid (by simp), by omega, by have := HE.out; omega, Lib.hid ⟨HLX.out.symm, by simp [Nat.mod_one]⟩, Hown, Hb2⟩
      case round =>
        obtain ⟨k, c, ab, rfl, rfl, Hab, hk, hpk, Hc, Ho, Hb⟩ := hrel
        clear Hown Hb2
        by_cases hlt : k < 32
        · by_cases hpe2 : p + k < E
          · have hEL : E ≤ 8 * (L : Int) := by have := HE.out; omega
            have hpe4 : p + (k : Int) < 8 * (L : Int) := by have := HE.out; omega
            have hj : ((p + k) / 8).toNat < c.length := by have := Hc.out.1; omega
            have hbyte := byteCells_get c _ hj
            obtain ⟨hc1, hc2⟩ := own_cell Ho.out hbyte
            have hi0 : 0 ≤ (p + (k : Int)) / 8 := by omega
            have hi1 : (p + (k : Int)) / 8 < L := by omega
            have hpe3 : ((k : Int) < 32) := by omega
            obtain ⟨xb, hxb⟩ : ∃ xb : Int, xb = (c[((p + k) / 8).toNat].toNat : Int) := ⟨_, rfl⟩
            rw [← hxb] at hc1 hbyte
            have hxb0 : 0 ≤ xb := by omega
            have hxb1 : xb < 256 := by have := c[((p + k) / 8).toNat].toNat_lt; omega
            have Hxb := Lib.hid hxb
            clear hxb hbyte
            by_cases hbit : b.toNat / 2 ^ k % 2 = 1
            · have hbit2 := hbit
              have hcond : (bits BinOp.and .u32 (b / 2 ^ k) 1 == 1) = true := by
                rw [bit_cond b k hb0 hb1, hbit]; rfl
              clear hbit
              have Hbit := Lib.hid hbit2
              clear hbit2
              go_wp2_with fail
              go_roundw
              case rel =>
                have htr := (turn_round X c p.toNat k b.toNat (by rw [Hc.out.1]; exact HLX.out) (by have := HLX.out; omega) Hc.out.2).1 Hbit.out
                have hjn : ((p + (k : Int)) / 8).toNat = (p.toNat + k) / 8 := by omega
                have hsn : ((p + (k : Int)) % 8).toNat = (p.toNat + k) % 8 := by omega
                have hst := own_store Ho.out (i := ((p + (k : Int)) / 8).toNat) (by omega) (.int .u8 (bits BinOp.xor .u8 xb (2 ^ ((p + (k : Int)) % 8).toNat % 256)))
                have hval : bits BinOp.xor .u8 xb (2 ^ ((p + (k : Int)) % 8).toNat % 256) = ((c[((p + (k : Int)) / 8).toNat] ^^^ UInt8.ofNat (2 ^ ((p.toNat + k) % 8))).toNat : Int) := by
                  rw [Hxb.out, hsn]
                  exact xor_byte _ _ (Nat.mod_lt _ (by decide))
                rw [hval, byteCells_set] at hst
                refine ⟨k + 1, c.set ((p + (k : Int)) / 8).toNat (c[((p + (k : Int)) / 8).toNat] ^^^ UInt8.ofNat (2 ^ ((p.toNat + k) % 8))), true, by go_num, rfl, Lib.hid fun _ => ?_, by omega, by omega, Lib.hid ⟨by rw [List.length_set]; exact Hc.out.1, ?_⟩, Lib.hid ?_, Lib.hid ?_⟩
                · exact turn_pos b.toNat k Hbit.out
                · have := htr (by omega)
                  simp only [hjn]
                  exact this
                · rw [hval]; exact hst
                · exact Hb.out.setCell (p := ⟨g, _, none⟩) (own_blk_ge Ho.out g rfl) _
              case measure => simp [intOf]; omega
            · have hcond : (bits BinOp.and .u32 (b / 2 ^ k) 1 == 1) = false := by
                rw [bit_cond b k hb0 hb1]; have : b.toNat / 2 ^ k % 2 = 0 := by omega
                rw [this]; rfl
              have Hbit := Lib.hid hbit
              clear hbit
              go_wp2_with fail
              go_roundw
              case rel =>
                have htr := (turn_round X c p.toNat k b.toNat (by rw [Hc.out.1]; exact HLX.out) (by have := HLX.out; omega) Hc.out.2).2 Hbit.out
                refine ⟨k + 1, c, ab, by go_num, rfl, Lib.hid fun h => ?_, by omega, by omega, Lib.hid ⟨Hc.out.1, htr⟩, Ho, Hb⟩
                exact turn_more b.toNat k (Hab.out h)
              case measure => simp [intOf]; omega
          · have hpe3 : 8 * (L : Int) ≤ p + (k : Int) := by have := HE.out; omega
            have hlt3 : (k : Int) < 32 := by omega
            have hbc : Bytes (W2.heap.size ≤ ·) wr (.slice (some ⟨g, 0, none⟩) L cap) c := by unfold Bytes; rw [Hc.out.1]; exact RowAt.of_own Ho.out
            obtain ⟨⟨m3, f3⟩, hu3⟩ : ∃ q, unpMsg c = q := ⟨_, rfl⟩
            have hf3 : ab = true → f3 ≠ 0 := fun h => turn_end X c b.toNat p.toNat k m3 f3 (by rw [Hc.out.1]; exact HLX.out) (by have := HLX.out; omega) (by have := HLX.out; omega) Hc.out.2 (Hab.out h) (by omega) (by have := HLX.out; have := HE.out; omega) Hxs.out hu3
            have HU3 := Lib.hid (unpTo _ c m3 f3 wr hu3 hbc (by rw [Hc.out.1]; omega))
            have Hf3 := Lib.hid hf3
            clear hbc hu3 hf3
            go_wp2_with fail
            refine HU3.out.mono ?_
            rintro _ W5 ⟨pl, pd, rfl, hp, hb⟩
            obtain ⟨AP, cP, rfl⟩ := hp.1.slice
            obtain ⟨DP, dP, rfl⟩ := hp.2.1.slice
            have b60 := box_below W5 (.cells #[.int .i64 m3.kind, .int .i64 m3.src, .int .i64 m3.dst, .int .i64 m3.term, .int .i64 m3.at_, .int .i64 m3.atTerm, .int .i64 m3.commit, .int .i64 m3.round, .bool m3.yes, (.slice AP m3.l.length cP), (.slice DP m3.data.length dP)] 65)
            have P6 := blk_new W5 (.cells #[.int .i64 m3.kind, .int .i64 m3.src, .int .i64 m3.dst, .int .i64 m3.term, .int .i64 m3.at_, .int .i64 m3.atTerm, .int .i64 m3.commit, .int .i64 m3.round, .bool m3.yes, (.slice AP m3.l.length cP), (.slice DP m3.data.length dP)] 65)
            obtain ⟨W6, hW6⟩ : ∃ W, W5.alloc (.cells #[.int .i64 m3.kind, .int .i64 m3.src, .int .i64 m3.dst, .int .i64 m3.term, .int .i64 m3.at_, .int .i64 m3.atTerm, .int .i64 m3.commit, .int .i64 m3.round, .bool m3.yes, (.slice AP m3.l.length cP), (.slice DP m3.data.length dP)] 65) = W := ⟨_, rfl⟩
            rw [hW6] at b60 P6
            have b6 := below_then Hb.out (below_then hb b60)
            have HB6 := Lib.hid b6
            have HX6 := Lib.hid (HX.out.keep b6)
            clear hp hb b6 b60 P6 HU3
            have HCC := Lib.hid (cnt_any cut (L : Int) W6 Hcut.out (by omega) (by omega))
            cases ab
            · clear Hf3 Hab
              go_wp2_with fail
              clear hW6
              refine HCC.out.mono ?_
              rintro _ _ ⟨⟨r, rfl, hr0, hr1⟩, rfl⟩
              obtain ⟨ka, kn, kc, hkb, hkn, hkr⟩ := bytes_h HX6.out r hr0 (by have := HLX.out; omega)
              obtain ⟨⟨m4, f4⟩, hu4⟩ : ∃ q, unpMsg (X.take r.toNat) = q := ⟨_, rfl⟩
              have HU4 := Lib.hid (unpTo _ _ m4 f4 W6 hu4 hkb (by rw [List.length_take]; have := HLX.out; omega))
              have HQ4 := Lib.hid fun W hb => qunpTo _ _ m4 f4 W hu4 (hkb.keep hb) (by rw [List.length_take]; have := HLX.out; omega)
              clear hkb hkn hu4
              go_wp2_with fail
              refine HU4.out.mono ?_
              rintro _ W7 ⟨ql, qd, rfl, hq, hb⟩
              obtain ⟨AQ, cQ, rfl⟩ := hq.1.slice
              obtain ⟨DQ, dQ, rfl⟩ := hq.2.1.slice
              have b80 := box_below W7 (.cells #[.int .i64 m4.kind, .int .i64 m4.src, .int .i64 m4.dst, .int .i64 m4.term, .int .i64 m4.at_, .int .i64 m4.atTerm, .int .i64 m4.commit, .int .i64 m4.round, .bool m4.yes, (.slice AQ m4.l.length cQ), (.slice DQ m4.data.length dQ)] 65)
              have Q8 := blk_new W7 (.cells #[.int .i64 m4.kind, .int .i64 m4.src, .int .i64 m4.dst, .int .i64 m4.term, .int .i64 m4.at_, .int .i64 m4.atTerm, .int .i64 m4.commit, .int .i64 m4.round, .bool m4.yes, (.slice AQ m4.l.length cQ), (.slice DQ m4.data.length dQ)] 65)
              obtain ⟨W8, hW8⟩ : ∃ W, W7.alloc (.cells #[.int .i64 m4.kind, .int .i64 m4.src, .int .i64 m4.dst, .int .i64 m4.term, .int .i64 m4.at_, .int .i64 m4.atTerm, .int .i64 m4.commit, .int .i64 m4.round, .bool m4.yes, (.slice AQ m4.l.length cQ), (.slice DQ m4.data.length dQ)] 65) = W := ⟨_, rfl⟩
              rw [hW8] at b80 Q8
              have b8 := below_then hb b80
              have HQ4 := Lib.hid (HQ4.out W8 b8)
              have HB8 := Lib.hid (below_then HB6.out b8)
              clear hq hb b8 b80 Q8 HU4
              go_wp2_with fail
              clear hW8
              refine HQ4.out.mono ?_
              rintro _ W9 ⟨sl, sd, rfl, hs, hb⟩
              obtain ⟨AS, cS, rfl⟩ := hs.1.slice
              obtain ⟨DS, dS, rfl⟩ := hs.2.1.slice
              have bz0 := box_below W9 (.cells #[.int .i64 m4.kind, .int .i64 m4.src, .int .i64 m4.dst, .int .i64 m4.term, .int .i64 m4.at_, .int .i64 m4.atTerm, .int .i64 m4.commit, .int .i64 m4.round, .bool m4.yes, (.slice AS m4.l.length cS), (.slice DS m4.data.length dS)] 65)
              have R10 := blk_new W9 (.cells #[.int .i64 m4.kind, .int .i64 m4.src, .int .i64 m4.dst, .int .i64 m4.term, .int .i64 m4.at_, .int .i64 m4.atTerm, .int .i64 m4.commit, .int .i64 m4.round, .bool m4.yes, (.slice AS m4.l.length cS), (.slice DS m4.data.length dS)] 65)
              obtain ⟨W10, hW10⟩ : ∃ W, W9.alloc (.cells #[.int .i64 m4.kind, .int .i64 m4.src, .int .i64 m4.dst, .int .i64 m4.term, .int .i64 m4.at_, .int .i64 m4.atTerm, .int .i64 m4.commit, .int .i64 m4.round, .bool m4.yes, (.slice AS m4.l.length cS), (.slice DS m4.data.length dS)] 65) = W := ⟨_, rfl⟩
              rw [hW10] at bz0 R10
              have HB10 := Lib.hid (below_then HB2.out (below_then HB8.out (below_then hb bz0)))
              clear hs hb bz0 R10 HQ4
              go_wp2_with (go_at_call 12; refine (known_any _).mono ?_; rintro _ W15 ⟨rfl, hb15⟩)
              go_ret
              exact ⟨rfl, below_then HB10.out hb15⟩
            · have hf3b : (f3 == 0) = false := by simpa using Hf3.out rfl
              clear Hf3 Hab
              go_wp2_with fail
              clear hW6
              refine HCC.out.mono ?_
              rintro _ _ ⟨⟨r, rfl, hr0, hr1⟩, rfl⟩
              obtain ⟨ka, kn, kc, hkb, hkn, hkr⟩ := bytes_h HX6.out r hr0 (by have := HLX.out; omega)
              obtain ⟨⟨m4, f4⟩, hu4⟩ : ∃ q, unpMsg (X.take r.toNat) = q := ⟨_, rfl⟩
              have HU4 := Lib.hid (unpTo _ _ m4 f4 W6 hu4 hkb (by rw [List.length_take]; have := HLX.out; omega))
              have HQ4 := Lib.hid fun W hb => qunpTo _ _ m4 f4 W hu4 (hkb.keep hb) (by rw [List.length_take]; have := HLX.out; omega)
              clear hkb hkn hu4
              go_wp2_with fail
              refine HU4.out.mono ?_
              rintro _ W7 ⟨ql, qd, rfl, hq, hb⟩
              obtain ⟨AQ, cQ, rfl⟩ := hq.1.slice
              obtain ⟨DQ, dQ, rfl⟩ := hq.2.1.slice
              have b80 := box_below W7 (.cells #[.int .i64 m4.kind, .int .i64 m4.src, .int .i64 m4.dst, .int .i64 m4.term, .int .i64 m4.at_, .int .i64 m4.atTerm, .int .i64 m4.commit, .int .i64 m4.round, .bool m4.yes, (.slice AQ m4.l.length cQ), (.slice DQ m4.data.length dQ)] 65)
              have Q8 := blk_new W7 (.cells #[.int .i64 m4.kind, .int .i64 m4.src, .int .i64 m4.dst, .int .i64 m4.term, .int .i64 m4.at_, .int .i64 m4.atTerm, .int .i64 m4.commit, .int .i64 m4.round, .bool m4.yes, (.slice AQ m4.l.length cQ), (.slice DQ m4.data.length dQ)] 65)
              obtain ⟨W8, hW8⟩ : ∃ W, W7.alloc (.cells #[.int .i64 m4.kind, .int .i64 m4.src, .int .i64 m4.dst, .int .i64 m4.term, .int .i64 m4.at_, .int .i64 m4.atTerm, .int .i64 m4.commit, .int .i64 m4.round, .bool m4.yes, (.slice AQ m4.l.length cQ), (.slice DQ m4.data.length dQ)] 65) = W := ⟨_, rfl⟩
              rw [hW8] at b80 Q8
              have b8 := below_then hb b80
              have HQ4 := Lib.hid (HQ4.out W8 b8)
              have HB8 := Lib.hid (below_then HB6.out b8)
              clear hq hb b8 b80 Q8 HU4
              go_wp2_with fail
              clear hW8
              refine HQ4.out.mono ?_
              rintro _ W9 ⟨sl, sd, rfl, hs, hb⟩
              obtain ⟨AS, cS, rfl⟩ := hs.1.slice
              obtain ⟨DS, dS, rfl⟩ := hs.2.1.slice
              have bz0 := box_below W9 (.cells #[.int .i64 m4.kind, .int .i64 m4.src, .int .i64 m4.dst, .int .i64 m4.term, .int .i64 m4.at_, .int .i64 m4.atTerm, .int .i64 m4.commit, .int .i64 m4.round, .bool m4.yes, (.slice AS m4.l.length cS), (.slice DS m4.data.length dS)] 65)
              have R10 := blk_new W9 (.cells #[.int .i64 m4.kind, .int .i64 m4.src, .int .i64 m4.dst, .int .i64 m4.term, .int .i64 m4.at_, .int .i64 m4.atTerm, .int .i64 m4.commit, .int .i64 m4.round, .bool m4.yes, (.slice AS m4.l.length cS), (.slice DS m4.data.length dS)] 65)
              obtain ⟨W10, hW10⟩ : ∃ W, W9.alloc (.cells #[.int .i64 m4.kind, .int .i64 m4.src, .int .i64 m4.dst, .int .i64 m4.term, .int .i64 m4.at_, .int .i64 m4.atTerm, .int .i64 m4.commit, .int .i64 m4.round, .bool m4.yes, (.slice AS m4.l.length cS), (.slice DS m4.data.length dS)] 65) = W := ⟨_, rfl⟩
              rw [hW10] at bz0 R10
              have HB10 := Lib.hid (below_then HB2.out (below_then HB8.out (below_then hb bz0)))
              clear hs hb bz0 R10 HQ4
              go_wp2_with (go_at_call 12; refine (known_any _).mono ?_; rintro _ W15 ⟨rfl, hb15⟩)
              go_ret
              exact ⟨rfl, below_then HB10.out hb15⟩
        · have hlt3 : ¬ ((k : Int) < 32) := by omega
          have hbc : Bytes (W2.heap.size ≤ ·) wr (.slice (some ⟨g, 0, none⟩) L cap) c := by unfold Bytes; rw [Hc.out.1]; exact RowAt.of_own Ho.out
          obtain ⟨⟨m3, f3⟩, hu3⟩ : ∃ q, unpMsg c = q := ⟨_, rfl⟩
          have hf3 : ab = true → f3 ≠ 0 := fun h => turn_end X c b.toNat p.toNat k m3 f3 (by rw [Hc.out.1]; exact HLX.out) (by have := HLX.out; omega) (by have := HLX.out; omega) Hc.out.2 (Hab.out h) (by omega) (by have := HLX.out; have := HE.out; omega) Hxs.out hu3
          have HU3 := Lib.hid (unpTo _ c m3 f3 wr hu3 hbc (by rw [Hc.out.1]; omega))
          have Hf3 := Lib.hid hf3
          clear hbc hu3 hf3
          go_wp2_with fail
          refine HU3.out.mono ?_
          rintro _ W5 ⟨pl, pd, rfl, hp, hb⟩
          obtain ⟨AP, cP, rfl⟩ := hp.1.slice
          obtain ⟨DP, dP, rfl⟩ := hp.2.1.slice
          have b60 := box_below W5 (.cells #[.int .i64 m3.kind, .int .i64 m3.src, .int .i64 m3.dst, .int .i64 m3.term, .int .i64 m3.at_, .int .i64 m3.atTerm, .int .i64 m3.commit, .int .i64 m3.round, .bool m3.yes, (.slice AP m3.l.length cP), (.slice DP m3.data.length dP)] 65)
          have P6 := blk_new W5 (.cells #[.int .i64 m3.kind, .int .i64 m3.src, .int .i64 m3.dst, .int .i64 m3.term, .int .i64 m3.at_, .int .i64 m3.atTerm, .int .i64 m3.commit, .int .i64 m3.round, .bool m3.yes, (.slice AP m3.l.length cP), (.slice DP m3.data.length dP)] 65)
          obtain ⟨W6, hW6⟩ : ∃ W, W5.alloc (.cells #[.int .i64 m3.kind, .int .i64 m3.src, .int .i64 m3.dst, .int .i64 m3.term, .int .i64 m3.at_, .int .i64 m3.atTerm, .int .i64 m3.commit, .int .i64 m3.round, .bool m3.yes, (.slice AP m3.l.length cP), (.slice DP m3.data.length dP)] 65) = W := ⟨_, rfl⟩
          rw [hW6] at b60 P6
          have b6 := below_then Hb.out (below_then hb b60)
          have HB6 := Lib.hid b6
          have HX6 := Lib.hid (HX.out.keep b6)
          clear hp hb b6 b60 P6 HU3
          have HCC := Lib.hid (cnt_any cut (L : Int) W6 Hcut.out (by omega) (by omega))
          cases ab
          · clear Hf3 Hab
            go_wp2_with fail
            clear hW6
            refine HCC.out.mono ?_
            rintro _ _ ⟨⟨r, rfl, hr0, hr1⟩, rfl⟩
            obtain ⟨ka, kn, kc, hkb, hkn, hkr⟩ := bytes_h HX6.out r hr0 (by have := HLX.out; omega)
            obtain ⟨⟨m4, f4⟩, hu4⟩ : ∃ q, unpMsg (X.take r.toNat) = q := ⟨_, rfl⟩
            have HU4 := Lib.hid (unpTo _ _ m4 f4 W6 hu4 hkb (by rw [List.length_take]; have := HLX.out; omega))
            have HQ4 := Lib.hid fun W hb => qunpTo _ _ m4 f4 W hu4 (hkb.keep hb) (by rw [List.length_take]; have := HLX.out; omega)
            clear hkb hkn hu4
            go_wp2_with fail
            refine HU4.out.mono ?_
            rintro _ W7 ⟨ql, qd, rfl, hq, hb⟩
            obtain ⟨AQ, cQ, rfl⟩ := hq.1.slice
            obtain ⟨DQ, dQ, rfl⟩ := hq.2.1.slice
            have b80 := box_below W7 (.cells #[.int .i64 m4.kind, .int .i64 m4.src, .int .i64 m4.dst, .int .i64 m4.term, .int .i64 m4.at_, .int .i64 m4.atTerm, .int .i64 m4.commit, .int .i64 m4.round, .bool m4.yes, (.slice AQ m4.l.length cQ), (.slice DQ m4.data.length dQ)] 65)
            have Q8 := blk_new W7 (.cells #[.int .i64 m4.kind, .int .i64 m4.src, .int .i64 m4.dst, .int .i64 m4.term, .int .i64 m4.at_, .int .i64 m4.atTerm, .int .i64 m4.commit, .int .i64 m4.round, .bool m4.yes, (.slice AQ m4.l.length cQ), (.slice DQ m4.data.length dQ)] 65)
            obtain ⟨W8, hW8⟩ : ∃ W, W7.alloc (.cells #[.int .i64 m4.kind, .int .i64 m4.src, .int .i64 m4.dst, .int .i64 m4.term, .int .i64 m4.at_, .int .i64 m4.atTerm, .int .i64 m4.commit, .int .i64 m4.round, .bool m4.yes, (.slice AQ m4.l.length cQ), (.slice DQ m4.data.length dQ)] 65) = W := ⟨_, rfl⟩
            rw [hW8] at b80 Q8
            have b8 := below_then hb b80
            have HQ4 := Lib.hid (HQ4.out W8 b8)
            have HB8 := Lib.hid (below_then HB6.out b8)
            clear hq hb b8 b80 Q8 HU4
            go_wp2_with fail
            clear hW8
            refine HQ4.out.mono ?_
            rintro _ W9 ⟨sl, sd, rfl, hs, hb⟩
            obtain ⟨AS, cS, rfl⟩ := hs.1.slice
            obtain ⟨DS, dS, rfl⟩ := hs.2.1.slice
            have bz0 := box_below W9 (.cells #[.int .i64 m4.kind, .int .i64 m4.src, .int .i64 m4.dst, .int .i64 m4.term, .int .i64 m4.at_, .int .i64 m4.atTerm, .int .i64 m4.commit, .int .i64 m4.round, .bool m4.yes, (.slice AS m4.l.length cS), (.slice DS m4.data.length dS)] 65)
            have R10 := blk_new W9 (.cells #[.int .i64 m4.kind, .int .i64 m4.src, .int .i64 m4.dst, .int .i64 m4.term, .int .i64 m4.at_, .int .i64 m4.atTerm, .int .i64 m4.commit, .int .i64 m4.round, .bool m4.yes, (.slice AS m4.l.length cS), (.slice DS m4.data.length dS)] 65)
            obtain ⟨W10, hW10⟩ : ∃ W, W9.alloc (.cells #[.int .i64 m4.kind, .int .i64 m4.src, .int .i64 m4.dst, .int .i64 m4.term, .int .i64 m4.at_, .int .i64 m4.atTerm, .int .i64 m4.commit, .int .i64 m4.round, .bool m4.yes, (.slice AS m4.l.length cS), (.slice DS m4.data.length dS)] 65) = W := ⟨_, rfl⟩
            rw [hW10] at bz0 R10
            have HB10 := Lib.hid (below_then HB2.out (below_then HB8.out (below_then hb bz0)))
            clear hs hb bz0 R10 HQ4
            go_wp2_with (go_at_call 12; refine (known_any _).mono ?_; rintro _ W15 ⟨rfl, hb15⟩)
            go_ret
            exact ⟨rfl, below_then HB10.out hb15⟩
          · have hf3b : (f3 == 0) = false := by simpa using Hf3.out rfl
            clear Hf3 Hab
            go_wp2_with fail
            clear hW6
            refine HCC.out.mono ?_
            rintro _ _ ⟨⟨r, rfl, hr0, hr1⟩, rfl⟩
            obtain ⟨ka, kn, kc, hkb, hkn, hkr⟩ := bytes_h HX6.out r hr0 (by have := HLX.out; omega)
            obtain ⟨⟨m4, f4⟩, hu4⟩ : ∃ q, unpMsg (X.take r.toNat) = q := ⟨_, rfl⟩
            have HU4 := Lib.hid (unpTo _ _ m4 f4 W6 hu4 hkb (by rw [List.length_take]; have := HLX.out; omega))
            have HQ4 := Lib.hid fun W hb => qunpTo _ _ m4 f4 W hu4 (hkb.keep hb) (by rw [List.length_take]; have := HLX.out; omega)
            clear hkb hkn hu4
            go_wp2_with fail
            refine HU4.out.mono ?_
            rintro _ W7 ⟨ql, qd, rfl, hq, hb⟩
            obtain ⟨AQ, cQ, rfl⟩ := hq.1.slice
            obtain ⟨DQ, dQ, rfl⟩ := hq.2.1.slice
            have b80 := box_below W7 (.cells #[.int .i64 m4.kind, .int .i64 m4.src, .int .i64 m4.dst, .int .i64 m4.term, .int .i64 m4.at_, .int .i64 m4.atTerm, .int .i64 m4.commit, .int .i64 m4.round, .bool m4.yes, (.slice AQ m4.l.length cQ), (.slice DQ m4.data.length dQ)] 65)
            have Q8 := blk_new W7 (.cells #[.int .i64 m4.kind, .int .i64 m4.src, .int .i64 m4.dst, .int .i64 m4.term, .int .i64 m4.at_, .int .i64 m4.atTerm, .int .i64 m4.commit, .int .i64 m4.round, .bool m4.yes, (.slice AQ m4.l.length cQ), (.slice DQ m4.data.length dQ)] 65)
            obtain ⟨W8, hW8⟩ : ∃ W, W7.alloc (.cells #[.int .i64 m4.kind, .int .i64 m4.src, .int .i64 m4.dst, .int .i64 m4.term, .int .i64 m4.at_, .int .i64 m4.atTerm, .int .i64 m4.commit, .int .i64 m4.round, .bool m4.yes, (.slice AQ m4.l.length cQ), (.slice DQ m4.data.length dQ)] 65) = W := ⟨_, rfl⟩
            rw [hW8] at b80 Q8
            have b8 := below_then hb b80
            have HQ4 := Lib.hid (HQ4.out W8 b8)
            have HB8 := Lib.hid (below_then HB6.out b8)
            clear hq hb b8 b80 Q8 HU4
            go_wp2_with fail
            clear hW8
            refine HQ4.out.mono ?_
            rintro _ W9 ⟨sl, sd, rfl, hs, hb⟩
            obtain ⟨AS, cS, rfl⟩ := hs.1.slice
            obtain ⟨DS, dS, rfl⟩ := hs.2.1.slice
            have bz0 := box_below W9 (.cells #[.int .i64 m4.kind, .int .i64 m4.src, .int .i64 m4.dst, .int .i64 m4.term, .int .i64 m4.at_, .int .i64 m4.atTerm, .int .i64 m4.commit, .int .i64 m4.round, .bool m4.yes, (.slice AS m4.l.length cS), (.slice DS m4.data.length dS)] 65)
            have R10 := blk_new W9 (.cells #[.int .i64 m4.kind, .int .i64 m4.src, .int .i64 m4.dst, .int .i64 m4.term, .int .i64 m4.at_, .int .i64 m4.atTerm, .int .i64 m4.commit, .int .i64 m4.round, .bool m4.yes, (.slice AS m4.l.length cS), (.slice DS m4.data.length dS)] 65)
            obtain ⟨W10, hW10⟩ : ∃ W, W9.alloc (.cells #[.int .i64 m4.kind, .int .i64 m4.src, .int .i64 m4.dst, .int .i64 m4.term, .int .i64 m4.at_, .int .i64 m4.atTerm, .int .i64 m4.commit, .int .i64 m4.round, .bool m4.yes, (.slice AS m4.l.length cS), (.slice DS m4.data.length dS)] 65) = W := ⟨_, rfl⟩
            rw [hW10] at bz0 R10
            have HB10 := Lib.hid (below_then HB2.out (below_then HB8.out (below_then hb bz0)))
            clear hs hb bz0 R10 HQ4
            go_wp2_with (go_at_call 12; refine (known_any _).mono ?_; rintro _ W15 ⟨rfl, hb15⟩)
            go_ret
            exact ⟨rfl, below_then HB10.out hb15⟩
    · obtain ⟨E, hE⟩ : ∃ E : Int, E = 8 * ((L : Int) - 4) := ⟨_, rfl⟩
      have HE := Lib.hid hE
      clear hE
      go_wp2_with (at_builtin; refine wpList_append_bytes (S := (W1.heap.size ≤ ·)) _ rfl _ _ rfl _ _ rfl rfl W2.heap.size 0 [] (World.ownsRow_nil _ _ _ _) X HX.out (by have := HLX.out; omega) (Nat.le_refl _) ?_; intro u1 w1 hown hgr _; have hb2 := (Below.refl W2.heap.size W2).grown hgr (Nat.le_refl _) (own_blk_ge (World.ownsRow_nil W2 W2.heap.size 5 1)); rw [Nat.zero_add, List.nil_append, ← HLX.out] at hown; obtain ⟨g, cap, rfl⟩ := own_form hown (by omega); have Hown := Lib.hid hown; have Hb2 := Lib.hid hb2; clear hown hgr hb2)
      go_loopw [13, 14] (fun s13 s14 wr => ∃ (k : Nat) (c : List UInt8) (ab : Bool), s14 = .int .i64 k ∧ s13 = .bool ab ∧ Hid (ab = true → b.toNat % 2 ^ k ≠ 0) ∧ k ≤ 32 ∧ p + k ≤ E ∧ Hid (c.length = L ∧ num c = num X ^^^ (b.toNat % 2 ^ k) * 2 ^ p.toNat) ∧ Hid (wr.ownsRow W2.heap.size 5 1 (.slice (some ⟨g, 0, none⟩) L cap) L (byteCells c)) ∧ Hid (Below W2.heap.size W2 wr)) (fun _ s14 _ => 32 - (intOf s14).toNat)
      case atStart => exact ⟨0, X, false, rfl, rfl, Lib.hid (by simp), by omega, by have := HE.out; omega, Lib.hid ⟨HLX.out.symm, by simp [Nat.mod_one]⟩, Hown, Hb2⟩
      case round =>
        obtain ⟨k, c, ab, rfl, rfl, Hab, hk, hpk, Hc, Ho, Hb⟩ := hrel
        clear Hown Hb2
        by_cases hlt : k < 32
        · by_cases hpe2 : p + k < E
          · have hEL : E ≤ 8 * (L : Int) := by have := HE.out; omega
            have hpe4 : p + (k : Int) < 8 * ((L : Int) - 4) := by have := HE.out; omega
            have hj : ((p + k) / 8).toNat < c.length := by have := Hc.out.1; omega
            have hbyte := byteCells_get c _ hj
            obtain ⟨hc1, hc2⟩ := own_cell Ho.out hbyte
            have hi0 : 0 ≤ (p + (k : Int)) / 8 := by omega
            have hi1 : (p + (k : Int)) / 8 < L := by omega
            have hpe3 : ((k : Int) < 32) := by omega
            obtain ⟨xb, hxb⟩ : ∃ xb : Int, xb = (c[((p + k) / 8).toNat].toNat : Int) := ⟨_, rfl⟩
            rw [← hxb] at hc1 hbyte
            have hxb0 : 0 ≤ xb := by omega
            have hxb1 : xb < 256 := by have := c[((p + k) / 8).toNat].toNat_lt; omega
            have Hxb := Lib.hid hxb
            clear hxb hbyte
            by_cases hbit : b.toNat / 2 ^ k % 2 = 1
            · have hbit2 := hbit
              have hcond : (bits BinOp.and .u32 (b / 2 ^ k) 1 == 1) = true := by
                rw [bit_cond b k hb0 hb1, hbit]; rfl
              clear hbit
              have Hbit := Lib.hid hbit2
              clear hbit2
              go_wp2_with fail
              go_roundw
              case rel =>
                have htr := (turn_round X c p.toNat k b.toNat (by rw [Hc.out.1]; exact HLX.out) (by have := HLX.out; omega) Hc.out.2).1 Hbit.out
                have hjn : ((p + (k : Int)) / 8).toNat = (p.toNat + k) / 8 := by omega
                have hsn : ((p + (k : Int)) % 8).toNat = (p.toNat + k) % 8 := by omega
                have hst := own_store Ho.out (i := ((p + (k : Int)) / 8).toNat) (by omega) (.int .u8 (bits BinOp.xor .u8 xb (2 ^ ((p + (k : Int)) % 8).toNat % 256)))
                have hval : bits BinOp.xor .u8 xb (2 ^ ((p + (k : Int)) % 8).toNat % 256) = ((c[((p + (k : Int)) / 8).toNat] ^^^ UInt8.ofNat (2 ^ ((p.toNat + k) % 8))).toNat : Int) := by
                  rw [Hxb.out, hsn]
                  exact xor_byte _ _ (Nat.mod_lt _ (by decide))
                rw [hval, byteCells_set] at hst
                refine ⟨k + 1, c.set ((p + (k : Int)) / 8).toNat (c[((p + (k : Int)) / 8).toNat] ^^^ UInt8.ofNat (2 ^ ((p.toNat + k) % 8))), true, by go_num, rfl, Lib.hid fun _ => ?_, by omega, by omega, Lib.hid ⟨by rw [List.length_set]; exact Hc.out.1, ?_⟩, Lib.hid ?_, Lib.hid ?_⟩
                · exact turn_pos b.toNat k Hbit.out
                · have := htr (by omega)
                  simp only [hjn]
                  exact this
                · rw [hval]; exact hst
                · exact Hb.out.setCell (p := ⟨g, _, none⟩) (own_blk_ge Ho.out g rfl) _
              case measure => simp [intOf]; omega
            · have hcond : (bits BinOp.and .u32 (b / 2 ^ k) 1 == 1) = false := by
                rw [bit_cond b k hb0 hb1]; have : b.toNat / 2 ^ k % 2 = 0 := by omega
                rw [this]; rfl
              have Hbit := Lib.hid hbit
              clear hbit
              go_wp2_with fail
              go_roundw
              case rel =>
                have htr := (turn_round X c p.toNat k b.toNat (by rw [Hc.out.1]; exact HLX.out) (by have := HLX.out; omega) Hc.out.2).2 Hbit.out
                refine ⟨k + 1, c, ab, by go_num, rfl, Lib.hid fun h => ?_, by omega, by omega, Lib.hid ⟨Hc.out.1, htr⟩, Ho, Hb⟩
                exact turn_more b.toNat k (Hab.out h)
              case measure => simp [intOf]; omega
          · have hpe3 : 8 * ((L : Int) - 4) ≤ p + (k : Int) := by have := HE.out; omega
            have hlt3 : (k : Int) < 32 := by omega
            have hbc : Bytes (W2.heap.size ≤ ·) wr (.slice (some ⟨g, 0, none⟩) L cap) c := by unfold Bytes; rw [Hc.out.1]; exact RowAt.of_own Ho.out
            obtain ⟨⟨m3, f3⟩, hu3⟩ : ∃ q, unpMsg c = q := ⟨_, rfl⟩
            have hf3 : ab = true → f3 ≠ 0 := fun h => turn_end X c b.toNat p.toNat k m3 f3 (by rw [Hc.out.1]; exact HLX.out) (by have := HLX.out; omega) (by have := HLX.out; omega) Hc.out.2 (Hab.out h) (by omega) (by have := HLX.out; have := HE.out; omega) Hxs.out hu3
            have HU3 := Lib.hid (unpTo _ c m3 f3 wr hu3 hbc (by rw [Hc.out.1]; omega))
            have Hf3 := Lib.hid hf3
            clear hbc hu3 hf3
            go_wp2_with fail
            refine HU3.out.mono ?_
            rintro _ W5 ⟨pl, pd, rfl, hp, hb⟩
            obtain ⟨AP, cP, rfl⟩ := hp.1.slice
            obtain ⟨DP, dP, rfl⟩ := hp.2.1.slice
            have b60 := box_below W5 (.cells #[.int .i64 m3.kind, .int .i64 m3.src, .int .i64 m3.dst, .int .i64 m3.term, .int .i64 m3.at_, .int .i64 m3.atTerm, .int .i64 m3.commit, .int .i64 m3.round, .bool m3.yes, (.slice AP m3.l.length cP), (.slice DP m3.data.length dP)] 65)
            have P6 := blk_new W5 (.cells #[.int .i64 m3.kind, .int .i64 m3.src, .int .i64 m3.dst, .int .i64 m3.term, .int .i64 m3.at_, .int .i64 m3.atTerm, .int .i64 m3.commit, .int .i64 m3.round, .bool m3.yes, (.slice AP m3.l.length cP), (.slice DP m3.data.length dP)] 65)
            obtain ⟨W6, hW6⟩ : ∃ W, W5.alloc (.cells #[.int .i64 m3.kind, .int .i64 m3.src, .int .i64 m3.dst, .int .i64 m3.term, .int .i64 m3.at_, .int .i64 m3.atTerm, .int .i64 m3.commit, .int .i64 m3.round, .bool m3.yes, (.slice AP m3.l.length cP), (.slice DP m3.data.length dP)] 65) = W := ⟨_, rfl⟩
            rw [hW6] at b60 P6
            have b6 := below_then Hb.out (below_then hb b60)
            have HB6 := Lib.hid b6
            have HX6 := Lib.hid (HX.out.keep b6)
            clear hp hb b6 b60 P6 HU3
            have HCC := Lib.hid (cnt_any cut (L : Int) W6 Hcut.out (by omega) (by omega))
            cases ab
            · clear Hf3 Hab
              go_wp2_with fail
              clear hW6
              refine HCC.out.mono ?_
              rintro _ _ ⟨⟨r, rfl, hr0, hr1⟩, rfl⟩
              obtain ⟨ka, kn, kc, hkb, hkn, hkr⟩ := bytes_h HX6.out r hr0 (by have := HLX.out; omega)
              obtain ⟨⟨m4, f4⟩, hu4⟩ : ∃ q, unpMsg (X.take r.toNat) = q := ⟨_, rfl⟩
              have HU4 := Lib.hid (unpTo _ _ m4 f4 W6 hu4 hkb (by rw [List.length_take]; have := HLX.out; omega))
              have HQ4 := Lib.hid fun W hb => qunpTo _ _ m4 f4 W hu4 (hkb.keep hb) (by rw [List.length_take]; have := HLX.out; omega)
              clear hkb hkn hu4
              go_wp2_with fail
              refine HU4.out.mono ?_
              rintro _ W7 ⟨ql, qd, rfl, hq, hb⟩
              obtain ⟨AQ, cQ, rfl⟩ := hq.1.slice
              obtain ⟨DQ, dQ, rfl⟩ := hq.2.1.slice
              have b80 := box_below W7 (.cells #[.int .i64 m4.kind, .int .i64 m4.src, .int .i64 m4.dst, .int .i64 m4.term, .int .i64 m4.at_, .int .i64 m4.atTerm, .int .i64 m4.commit, .int .i64 m4.round, .bool m4.yes, (.slice AQ m4.l.length cQ), (.slice DQ m4.data.length dQ)] 65)
              have Q8 := blk_new W7 (.cells #[.int .i64 m4.kind, .int .i64 m4.src, .int .i64 m4.dst, .int .i64 m4.term, .int .i64 m4.at_, .int .i64 m4.atTerm, .int .i64 m4.commit, .int .i64 m4.round, .bool m4.yes, (.slice AQ m4.l.length cQ), (.slice DQ m4.data.length dQ)] 65)
              obtain ⟨W8, hW8⟩ : ∃ W, W7.alloc (.cells #[.int .i64 m4.kind, .int .i64 m4.src, .int .i64 m4.dst, .int .i64 m4.term, .int .i64 m4.at_, .int .i64 m4.atTerm, .int .i64 m4.commit, .int .i64 m4.round, .bool m4.yes, (.slice AQ m4.l.length cQ), (.slice DQ m4.data.length dQ)] 65) = W := ⟨_, rfl⟩
              rw [hW8] at b80 Q8
              have b8 := below_then hb b80
              have HQ4 := Lib.hid (HQ4.out W8 b8)
              have HB8 := Lib.hid (below_then HB6.out b8)
              clear hq hb b8 b80 Q8 HU4
              go_wp2_with fail
              clear hW8
              refine HQ4.out.mono ?_
              rintro _ W9 ⟨sl, sd, rfl, hs, hb⟩
              obtain ⟨AS, cS, rfl⟩ := hs.1.slice
              obtain ⟨DS, dS, rfl⟩ := hs.2.1.slice
              have bz0 := box_below W9 (.cells #[.int .i64 m4.kind, .int .i64 m4.src, .int .i64 m4.dst, .int .i64 m4.term, .int .i64 m4.at_, .int .i64 m4.atTerm, .int .i64 m4.commit, .int .i64 m4.round, .bool m4.yes, (.slice AS m4.l.length cS), (.slice DS m4.data.length dS)] 65)
              have R10 := blk_new W9 (.cells #[.int .i64 m4.kind, .int .i64 m4.src, .int .i64 m4.dst, .int .i64 m4.term, .int .i64 m4.at_, .int .i64 m4.atTerm, .int .i64 m4.commit, .int .i64 m4.round, .bool m4.yes, (.slice AS m4.l.length cS), (.slice DS m4.data.length dS)] 65)
              obtain ⟨W10, hW10⟩ : ∃ W, W9.alloc (.cells #[.int .i64 m4.kind, .int .i64 m4.src, .int .i64 m4.dst, .int .i64 m4.term, .int .i64 m4.at_, .int .i64 m4.atTerm, .int .i64 m4.commit, .int .i64 m4.round, .bool m4.yes, (.slice AS m4.l.length cS), (.slice DS m4.data.length dS)] 65) = W := ⟨_, rfl⟩
              rw [hW10] at bz0 R10
              have HB10 := Lib.hid (below_then HB2.out (below_then HB8.out (below_then hb bz0)))
              clear hs hb bz0 R10 HQ4
              go_wp2_with (go_at_call 12; refine (known_any _).mono ?_; rintro _ W15 ⟨rfl, hb15⟩)
              go_ret
              exact ⟨rfl, below_then HB10.out hb15⟩
            · have hf3b : (f3 == 0) = false := by simpa using Hf3.out rfl
              clear Hf3 Hab
              go_wp2_with fail
              clear hW6
              refine HCC.out.mono ?_
              rintro _ _ ⟨⟨r, rfl, hr0, hr1⟩, rfl⟩
              obtain ⟨ka, kn, kc, hkb, hkn, hkr⟩ := bytes_h HX6.out r hr0 (by have := HLX.out; omega)
              obtain ⟨⟨m4, f4⟩, hu4⟩ : ∃ q, unpMsg (X.take r.toNat) = q := ⟨_, rfl⟩
              have HU4 := Lib.hid (unpTo _ _ m4 f4 W6 hu4 hkb (by rw [List.length_take]; have := HLX.out; omega))
              have HQ4 := Lib.hid fun W hb => qunpTo _ _ m4 f4 W hu4 (hkb.keep hb) (by rw [List.length_take]; have := HLX.out; omega)
              clear hkb hkn hu4
              go_wp2_with fail
              refine HU4.out.mono ?_
              rintro _ W7 ⟨ql, qd, rfl, hq, hb⟩
              obtain ⟨AQ, cQ, rfl⟩ := hq.1.slice
              obtain ⟨DQ, dQ, rfl⟩ := hq.2.1.slice
              have b80 := box_below W7 (.cells #[.int .i64 m4.kind, .int .i64 m4.src, .int .i64 m4.dst, .int .i64 m4.term, .int .i64 m4.at_, .int .i64 m4.atTerm, .int .i64 m4.commit, .int .i64 m4.round, .bool m4.yes, (.slice AQ m4.l.length cQ), (.slice DQ m4.data.length dQ)] 65)
              have Q8 := blk_new W7 (.cells #[.int .i64 m4.kind, .int .i64 m4.src, .int .i64 m4.dst, .int .i64 m4.term, .int .i64 m4.at_, .int .i64 m4.atTerm, .int .i64 m4.commit, .int .i64 m4.round, .bool m4.yes, (.slice AQ m4.l.length cQ), (.slice DQ m4.data.length dQ)] 65)
              obtain ⟨W8, hW8⟩ : ∃ W, W7.alloc (.cells #[.int .i64 m4.kind, .int .i64 m4.src, .int .i64 m4.dst, .int .i64 m4.term, .int .i64 m4.at_, .int .i64 m4.atTerm, .int .i64 m4.commit, .int .i64 m4.round, .bool m4.yes, (.slice AQ m4.l.length cQ), (.slice DQ m4.data.length dQ)] 65) = W := ⟨_, rfl⟩
              rw [hW8] at b80 Q8
              have b8 := below_then hb b80
              have HQ4 := Lib.hid (HQ4.out W8 b8)
              have HB8 := Lib.hid (below_then HB6.out b8)
              clear hq hb b8 b80 Q8 HU4
              go_wp2_with fail
              clear hW8
              refine HQ4.out.mono ?_
              rintro _ W9 ⟨sl, sd, rfl, hs, hb⟩
              obtain ⟨AS, cS, rfl⟩ := hs.1.slice
              obtain ⟨DS, dS, rfl⟩ := hs.2.1.slice
              have bz0 := box_below W9 (.cells #[.int .i64 m4.kind, .int .i64 m4.src, .int .i64 m4.dst, .int .i64 m4.term, .int .i64 m4.at_, .int .i64 m4.atTerm, .int .i64 m4.commit, .int .i64 m4.round, .bool m4.yes, (.slice AS m4.l.length cS), (.slice DS m4.data.length dS)] 65)
              have R10 := blk_new W9 (.cells #[.int .i64 m4.kind, .int .i64 m4.src, .int .i64 m4.dst, .int .i64 m4.term, .int .i64 m4.at_, .int .i64 m4.atTerm, .int .i64 m4.commit, .int .i64 m4.round, .bool m4.yes, (.slice AS m4.l.length cS), (.slice DS m4.data.length dS)] 65)
              obtain ⟨W10, hW10⟩ : ∃ W, W9.alloc (.cells #[.int .i64 m4.kind, .int .i64 m4.src, .int .i64 m4.dst, .int .i64 m4.term, .int .i64 m4.at_, .int .i64 m4.atTerm, .int .i64 m4.commit, .int .i64 m4.round, .bool m4.yes, (.slice AS m4.l.length cS), (.slice DS m4.data.length dS)] 65) = W := ⟨_, rfl⟩
              rw [hW10] at bz0 R10
              have HB10 := Lib.hid (below_then HB2.out (below_then HB8.out (below_then hb bz0)))
              clear hs hb bz0 R10 HQ4
              go_wp2_with (go_at_call 12; refine (known_any _).mono ?_; rintro _ W15 ⟨rfl, hb15⟩)
              go_ret
              exact ⟨rfl, below_then HB10.out hb15⟩
        · have hlt3 : ¬ ((k : Int) < 32) := by omega
          have hbc : Bytes (W2.heap.size ≤ ·) wr (.slice (some ⟨g, 0, none⟩) L cap) c := by unfold Bytes; rw [Hc.out.1]; exact RowAt.of_own Ho.out
          obtain ⟨⟨m3, f3⟩, hu3⟩ : ∃ q, unpMsg c = q := ⟨_, rfl⟩
          have hf3 : ab = true → f3 ≠ 0 := fun h => turn_end X c b.toNat p.toNat k m3 f3 (by rw [Hc.out.1]; exact HLX.out) (by have := HLX.out; omega) (by have := HLX.out; omega) Hc.out.2 (Hab.out h) (by omega) (by have := HLX.out; have := HE.out; omega) Hxs.out hu3
          have HU3 := Lib.hid (unpTo _ c m3 f3 wr hu3 hbc (by rw [Hc.out.1]; omega))
          have Hf3 := Lib.hid hf3
          clear hbc hu3 hf3
          go_wp2_with fail
          refine HU3.out.mono ?_
          rintro _ W5 ⟨pl, pd, rfl, hp, hb⟩
          obtain ⟨AP, cP, rfl⟩ := hp.1.slice
          obtain ⟨DP, dP, rfl⟩ := hp.2.1.slice
          have b60 := box_below W5 (.cells #[.int .i64 m3.kind, .int .i64 m3.src, .int .i64 m3.dst, .int .i64 m3.term, .int .i64 m3.at_, .int .i64 m3.atTerm, .int .i64 m3.commit, .int .i64 m3.round, .bool m3.yes, (.slice AP m3.l.length cP), (.slice DP m3.data.length dP)] 65)
          have P6 := blk_new W5 (.cells #[.int .i64 m3.kind, .int .i64 m3.src, .int .i64 m3.dst, .int .i64 m3.term, .int .i64 m3.at_, .int .i64 m3.atTerm, .int .i64 m3.commit, .int .i64 m3.round, .bool m3.yes, (.slice AP m3.l.length cP), (.slice DP m3.data.length dP)] 65)
          obtain ⟨W6, hW6⟩ : ∃ W, W5.alloc (.cells #[.int .i64 m3.kind, .int .i64 m3.src, .int .i64 m3.dst, .int .i64 m3.term, .int .i64 m3.at_, .int .i64 m3.atTerm, .int .i64 m3.commit, .int .i64 m3.round, .bool m3.yes, (.slice AP m3.l.length cP), (.slice DP m3.data.length dP)] 65) = W := ⟨_, rfl⟩
          rw [hW6] at b60 P6
          have b6 := below_then Hb.out (below_then hb b60)
          have HB6 := Lib.hid b6
          have HX6 := Lib.hid (HX.out.keep b6)
          clear hp hb b6 b60 P6 HU3
          have HCC := Lib.hid (cnt_any cut (L : Int) W6 Hcut.out (by omega) (by omega))
          cases ab
          · clear Hf3 Hab
            go_wp2_with fail
            clear hW6
            refine HCC.out.mono ?_
            rintro _ _ ⟨⟨r, rfl, hr0, hr1⟩, rfl⟩
            obtain ⟨ka, kn, kc, hkb, hkn, hkr⟩ := bytes_h HX6.out r hr0 (by have := HLX.out; omega)
            obtain ⟨⟨m4, f4⟩, hu4⟩ : ∃ q, unpMsg (X.take r.toNat) = q := ⟨_, rfl⟩
            have HU4 := Lib.hid (unpTo _ _ m4 f4 W6 hu4 hkb (by rw [List.length_take]; have := HLX.out; omega))
            have HQ4 := Lib.hid fun W hb => qunpTo _ _ m4 f4 W hu4 (hkb.keep hb) (by rw [List.length_take]; have := HLX.out; omega)
            clear hkb hkn hu4
            go_wp2_with fail
            refine HU4.out.mono ?_
            rintro _ W7 ⟨ql, qd, rfl, hq, hb⟩
            obtain ⟨AQ, cQ, rfl⟩ := hq.1.slice
            obtain ⟨DQ, dQ, rfl⟩ := hq.2.1.slice
            have b80 := box_below W7 (.cells #[.int .i64 m4.kind, .int .i64 m4.src, .int .i64 m4.dst, .int .i64 m4.term, .int .i64 m4.at_, .int .i64 m4.atTerm, .int .i64 m4.commit, .int .i64 m4.round, .bool m4.yes, (.slice AQ m4.l.length cQ), (.slice DQ m4.data.length dQ)] 65)
            have Q8 := blk_new W7 (.cells #[.int .i64 m4.kind, .int .i64 m4.src, .int .i64 m4.dst, .int .i64 m4.term, .int .i64 m4.at_, .int .i64 m4.atTerm, .int .i64 m4.commit, .int .i64 m4.round, .bool m4.yes, (.slice AQ m4.l.length cQ), (.slice DQ m4.data.length dQ)] 65)
            obtain ⟨W8, hW8⟩ : ∃ W, W7.alloc (.cells #[.int .i64 m4.kind, .int .i64 m4.src, .int .i64 m4.dst, .int .i64 m4.term, .int .i64 m4.at_, .int .i64 m4.atTerm, .int .i64 m4.commit, .int .i64 m4.round, .bool m4.yes, (.slice AQ m4.l.length cQ), (.slice DQ m4.data.length dQ)] 65) = W := ⟨_, rfl⟩
            rw [hW8] at b80 Q8
            have b8 := below_then hb b80
            have HQ4 := Lib.hid (HQ4.out W8 b8)
            have HB8 := Lib.hid (below_then HB6.out b8)
            clear hq hb b8 b80 Q8 HU4
            go_wp2_with fail
            clear hW8
            refine HQ4.out.mono ?_
            rintro _ W9 ⟨sl, sd, rfl, hs, hb⟩
            obtain ⟨AS, cS, rfl⟩ := hs.1.slice
            obtain ⟨DS, dS, rfl⟩ := hs.2.1.slice
            have bz0 := box_below W9 (.cells #[.int .i64 m4.kind, .int .i64 m4.src, .int .i64 m4.dst, .int .i64 m4.term, .int .i64 m4.at_, .int .i64 m4.atTerm, .int .i64 m4.commit, .int .i64 m4.round, .bool m4.yes, (.slice AS m4.l.length cS), (.slice DS m4.data.length dS)] 65)
            have R10 := blk_new W9 (.cells #[.int .i64 m4.kind, .int .i64 m4.src, .int .i64 m4.dst, .int .i64 m4.term, .int .i64 m4.at_, .int .i64 m4.atTerm, .int .i64 m4.commit, .int .i64 m4.round, .bool m4.yes, (.slice AS m4.l.length cS), (.slice DS m4.data.length dS)] 65)
            obtain ⟨W10, hW10⟩ : ∃ W, W9.alloc (.cells #[.int .i64 m4.kind, .int .i64 m4.src, .int .i64 m4.dst, .int .i64 m4.term, .int .i64 m4.at_, .int .i64 m4.atTerm, .int .i64 m4.commit, .int .i64 m4.round, .bool m4.yes, (.slice AS m4.l.length cS), (.slice DS m4.data.length dS)] 65) = W := ⟨_, rfl⟩
            rw [hW10] at bz0 R10
            have HB10 := Lib.hid (below_then HB2.out (below_then HB8.out (below_then hb bz0)))
            clear hs hb bz0 R10 HQ4
            go_wp2_with (go_at_call 12; refine (known_any _).mono ?_; rintro _ W15 ⟨rfl, hb15⟩)
            go_ret
            exact ⟨rfl, below_then HB10.out hb15⟩
          · have hf3b : (f3 == 0) = false := by simpa using Hf3.out rfl
            clear Hf3 Hab
            go_wp2_with fail
            clear hW6
            refine HCC.out.mono ?_
            rintro _ _ ⟨⟨r, rfl, hr0, hr1⟩, rfl⟩
            obtain ⟨ka, kn, kc, hkb, hkn, hkr⟩ := bytes_h HX6.out r hr0 (by have := HLX.out; omega)
            obtain ⟨⟨m4, f4⟩, hu4⟩ : ∃ q, unpMsg (X.take r.toNat) = q := ⟨_, rfl⟩
            have HU4 := Lib.hid (unpTo _ _ m4 f4 W6 hu4 hkb (by rw [List.length_take]; have := HLX.out; omega))
            have HQ4 := Lib.hid fun W hb => qunpTo _ _ m4 f4 W hu4 (hkb.keep hb) (by rw [List.length_take]; have := HLX.out; omega)
            clear hkb hkn hu4
            go_wp2_with fail
            refine HU4.out.mono ?_
            rintro _ W7 ⟨ql, qd, rfl, hq, hb⟩
            obtain ⟨AQ, cQ, rfl⟩ := hq.1.slice
            obtain ⟨DQ, dQ, rfl⟩ := hq.2.1.slice
            have b80 := box_below W7 (.cells #[.int .i64 m4.kind, .int .i64 m4.src, .int .i64 m4.dst, .int .i64 m4.term, .int .i64 m4.at_, .int .i64 m4.atTerm, .int .i64 m4.commit, .int .i64 m4.round, .bool m4.yes, (.slice AQ m4.l.length cQ), (.slice DQ m4.data.length dQ)] 65)
            have Q8 := blk_new W7 (.cells #[.int .i64 m4.kind, .int .i64 m4.src, .int .i64 m4.dst, .int .i64 m4.term, .int .i64 m4.at_, .int .i64 m4.atTerm, .int .i64 m4.commit, .int .i64 m4.round, .bool m4.yes, (.slice AQ m4.l.length cQ), (.slice DQ m4.data.length dQ)] 65)
            obtain ⟨W8, hW8⟩ : ∃ W, W7.alloc (.cells #[.int .i64 m4.kind, .int .i64 m4.src, .int .i64 m4.dst, .int .i64 m4.term, .int .i64 m4.at_, .int .i64 m4.atTerm, .int .i64 m4.commit, .int .i64 m4.round, .bool m4.yes, (.slice AQ m4.l.length cQ), (.slice DQ m4.data.length dQ)] 65) = W := ⟨_, rfl⟩
            rw [hW8] at b80 Q8
            have b8 := below_then hb b80
            have HQ4 := Lib.hid (HQ4.out W8 b8)
            have HB8 := Lib.hid (below_then HB6.out b8)
            clear hq hb b8 b80 Q8 HU4
            go_wp2_with fail
            clear hW8
            refine HQ4.out.mono ?_
            rintro _ W9 ⟨sl, sd, rfl, hs, hb⟩
            obtain ⟨AS, cS, rfl⟩ := hs.1.slice
            obtain ⟨DS, dS, rfl⟩ := hs.2.1.slice
            have bz0 := box_below W9 (.cells #[.int .i64 m4.kind, .int .i64 m4.src, .int .i64 m4.dst, .int .i64 m4.term, .int .i64 m4.at_, .int .i64 m4.atTerm, .int .i64 m4.commit, .int .i64 m4.round, .bool m4.yes, (.slice AS m4.l.length cS), (.slice DS m4.data.length dS)] 65)
            have R10 := blk_new W9 (.cells #[.int .i64 m4.kind, .int .i64 m4.src, .int .i64 m4.dst, .int .i64 m4.term, .int .i64 m4.at_, .int .i64 m4.atTerm, .int .i64 m4.commit, .int .i64 m4.round, .bool m4.yes, (.slice AS m4.l.length cS), (.slice DS m4.data.length dS)] 65)
            obtain ⟨W10, hW10⟩ : ∃ W, W9.alloc (.cells #[.int .i64 m4.kind, .int .i64 m4.src, .int .i64 m4.dst, .int .i64 m4.term, .int .i64 m4.at_, .int .i64 m4.atTerm, .int .i64 m4.commit, .int .i64 m4.round, .bool m4.yes, (.slice AS m4.l.length cS), (.slice DS m4.data.length dS)] 65) = W := ⟨_, rfl⟩
            rw [hW10] at bz0 R10
            have HB10 := Lib.hid (below_then HB2.out (below_then HB8.out (below_then hb bz0)))
            clear hs hb bz0 R10 HQ4
            go_wp2_with (go_at_call 12; refine (known_any _).mono ?_; rintro _ W15 ⟨rfl, hb15⟩)
            go_ret
            exact ⟨rfl, below_then HB10.out hb15⟩
  · have hpeb : (pe != 0) = true := by simpa using hpe
    clear hpe
    go_wp2_with (go_at_call 12; refine (known_any _).mono ?_; rintro _ W15 ⟨rfl, hb15⟩)
    go_ret
    exact ⟨rfl, below_then HB2.out hb15⟩
end Go.Proofs.Ytoaoldhajpbenaa

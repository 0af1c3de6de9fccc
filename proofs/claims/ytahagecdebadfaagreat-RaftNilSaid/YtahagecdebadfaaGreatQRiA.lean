/- Texts that belong together, in one file: RhD, PckC, PckD, PckE, CrcA, LetA, RiA. No statement is proved here. -/
import Derived.Test.YtahagecdebadfaaGreatQRhC
import Derived.Lib.SlBytesConst
import Derived.Test.YtahagecdebadfaaGreatQRfQ
import Derived.Test.YtahagecdebadfaaGreatQSliceB
import Derived.Laws.BitsLemmas
import Derived.Test.YtahagecdebadfaaGreatQEntM
import Derived.Test.YtahagecdebadfaaGreatQRfD
namespace Go.Proofs.YtahagecdebadfaaGreat
open Go.RowKit
attribute [local go_sem ↓] Go.wp_at_zero Go.wp_at_succ

theorem ready0 : Ready (Lg.of 0 0 1 []) 0 := ⟨(newB_floor (show newB 0 0 1 = true by decide)).base, by decide +kernel, by decide, by decide, by decide, by decide⟩
set_option maxRecDepth 100000 in
set_option maxHeartbeats 4000000 in
theorem l10known_any (w : World) : Calls Tryz.prog 7 #[] w fun e w' => e = .returned (.bool true) ∧ Below w.heap.size w w' := by
  have Hf := Lib.hid fun W => fresh_any W
  have Htick := Lib.hid fun (p k : Nat) (W : World) (hk : k ≤ 9) (h : Ph p w.heap.size 0 (Lg.of 0 0 1 []) k W) => tick_any p w.heap.size 0 (Lg.of 0 0 1 []) k W ready0 hk h
  go_enter Tryz.func7, Tryz.ntmps7
  go_wp2_with fail
  refine (Hf.out _).mono ?_
  rintro e w1 ⟨hb1, p, hp, rfl, hph⟩
  have HPh := Lib.hid hph
  clear hph
  go_wp2_with fail
  go_loopw [2] (fun i wr => ∃ k : Nat, i = .int .i64 k ∧ k ≤ 10 ∧ Ph p w.heap.size 0 (Lg.of 0 0 1 []) k wr ∧ Sm (fun b => b < w.heap.size) w wr) (fun i _ => (10 - intOf i).toNat)
  case atStart => exact ⟨0, rfl, by omega, HPh.out, Sm.of_below' hb1 _⟩
  case round =>
    obtain ⟨k, rfl, hk, hph, hfr⟩ := hrel
    have F0 := Lib.hid hfr
    clear hfr
    have HPk := Lib.hid hph
    clear hph
    by_cases h10 : k = 10
    · subst h10
      obtain ⟨q, hqB, hal⟩ : ∃ q, w.heap.size ≤ q ∧ Alone p q 0 (0 + 1) ((Lg.of 0 0 1 []).top + 1) 1 ((Lg.of 0 0 1 []).top + 1) 10 (.int .i64 0) (.int .i64 0) (.int .i64 10) (.slice none 0 0) ((Lg.of 0 0 1 []).adds [noop (0 + 1)]) wr := by
        rcases HPk.out with ⟨h, -⟩ | ⟨-, h⟩
        · omega
        · exact h
      have hal1 : Alone p q 0 1 1 1 1 10 (.int .i64 0) (.int .i64 0) (.int .i64 10) (.slice none 0 0) ((Lg.of 0 0 1 []).adds [noop 1]) wr := hal
      obtain ⟨n1, n2, n3, n4, n5, n6⟩ := ready0.next
      have nt : ((Lg.of 0 0 1 []).adds [noop 1]).top = 1 := by decide +kernel
      have nl : ((Lg.of 0 0 1 []).adds [noop 1]).ents.length + 1 ≤ 4096 := by decide +kernel
      have na : ((Lg.of 0 0 1 []).adds [noop 1]).a = 0 := by decide +kernel
      have m5 : changeAt (((Lg.of 0 0 1 []).adds [noop 1]).adds [⟨1, 1, [97]⟩]) = 0 := by decide +kernel
      have hal2 := hal1
      obtain ⟨g1, hg1⟩ : ∃ g1, (Lg.of 0 0 1 []).adds [noop 1] = g1 := ⟨_, rfl⟩
      rw [show (0 : Int) + 1 = 1 from rfl, hg1] at n1 n2 n3 n4 n5 n6
      rw [hg1] at nt nl na m5 hal1
      clear hal2 hg1 hal n4 n5 n6
      have hok2 : okSeq g1.topTerm [⟨1, 1, [97]⟩] = true := by rw [n3]; decide
      obtain ⟨p1, p2, p3, p4, -, -⟩ := n1.adds [⟨1, 1, [97]⟩] hok2 nl
      have pm : (g1.adds [⟨1, 1, [97]⟩]).mem = 1 := by rw [n1.mem_add hok2 nl]; exact n2
      have pt : (g1.adds [⟨1, 1, [97]⟩]).top = 2 := by unfold Lg.top at nt ⊢; rw [p2, p4]; simp; omega
      have ptt : (g1.adds [⟨1, 1, [97]⟩]).topTerm = 1 := by rw [p3]; rfl
      have pl : (g1.adds [⟨1, 1, [97]⟩]).ents.length + 1 ≤ 4096 := by have := nl; rw [p2]; unfold Lg.top at nt; rw [na] at nt; simp; omega
      have pc : newCommit (g1.adds [⟨1, 1, [97]⟩]) 1 1 (Int.toNat 0) [0, 0, 0, 0, 0] = 2 := by
        rw [← pt]
        exact commit_alone p1 pm ptt (by omega)
      have hinf := rinfo_lead p q 0 1 1 1 1 10 0 (.int .i64 0) (.int .i64 10) (.slice none 0 0) g1 wr hal1 n1 (by omega) (by omega)
      rw [n2] at hinf
      have Hinf := Lib.hid hinf
      have Hal := Lib.hid hal1
      clear hal1 hinf
      go_wp2_with fail
      refine Hinf.out.mono ?_
      rintro e w2 ⟨rfl, hb2⟩
      have Hal2 := Lib.hid (Hal.out.keepM hb2)
      have F1 := Lib.hid (F0.out.trans (Sm.of_below' hb2 _))
      clear Hinf
      have kc : ∀ o : Obj, (convert 40 40 (.slice (some ⟨w2.heap.size + 1, 0, none⟩) 1 1)).run Tryz.prog ((w2.alloc o).alloc (.cells #[.int .u8 97] 5)) = .ok (.slice (some ⟨w2.heap.size + 1, 0, none⟩) 1 1) ((w2.alloc o).alloc (.cells #[.int .u8 97] 5 (1, 2))) := fun o => by
        have := Lib.run_convert_bytes_const (P := Tryz.prog) (w2.alloc o) 40 5 #[.int .u8 97] 1 1 Tryz.underlying40 Tryz.underlying5
        simpa using this
      go_wp2_with fail
      obtain ⟨W3, hW3⟩ : ∃ W3, (w2.alloc (.cells #[.int .i64 1, .int .i64 0, .int .i64 3, .int .i64 0, .int .i64 1, .int .i64 1, .int .i64 (bestGo [1, 0, 0, 0, 0] 1 5)] 48)).alloc (.cells #[.int .u8 97] 5 (1, 2)) = W3 := ⟨_, rfl⟩
      have hb3 : Below w2.heap.size w2 W3 := by rw [← hW3]; exact below_alloc (box_below w2 _) _
      have hi3 : W3.heap[w2.heap.size]? = some (.cells #[.int .i64 1, .int .i64 0, .int .i64 3, .int .i64 0, .int .i64 1, .int .i64 1, .int .i64 (bestGo [1, 0, 0, 0, 0] 1 5)] 48 (0, 0)) := by rw [← hW3]; exact blk_alloc (blk_new w2 _) _
      have hc3 : W3.cell? ⟨w2.heap.size + 1, 0, none⟩ = some (.int .u8 97) := by
        have hbk : W3.heap[w2.heap.size + 1]? = some (.cells #[.int .u8 97] 5 (1, 2)) := by
          rw [← hW3]
          have := blk_new (w2.alloc (.cells #[.int .i64 1, .int .i64 0, .int .i64 3, .int .i64 0, .int .i64 1, .int .i64 1, .int .i64 (bestGo [1, 0, 0, 0, 0] 1 5)] 48)) (.cells #[.int .u8 97] 5 (1, 2))
          rw [World.size_alloc] at this
          exact this
        unfold World.cell?
        rw [show (Addr.mk (w2.heap.size + 1) 0 none).block = w2.heap.size + 1 from rfl, hbk]
        rfl
      have hl3 : w2.heap.size + 1 < W3.heap.size := block_lt hc3
      obtain ⟨_, -, -, hpq', -, -⟩ : ∃ lv, p ≠ q ∧ True ∧ p < w2.heap.size ∧ q < w2.heap.size ∧ True := by
        obtain ⟨lv, a1, a2, a3, a4⟩ := Hal2.out
        exact ⟨lv, a1, trivial, (Array.getElem?_eq_some_iff.1 a2).1, (Array.getElem?_eq_some_iff.1 a3).1, trivial⟩
      have hqlt : q < w2.heap.size := by
        obtain ⟨lv, a1, a2, a3, a4⟩ := Hal2.out
        exact (Array.getElem?_eq_some_iff.1 a3).1
      have hv3 : Bytes (fun b => ¬ b = p ∧ ¬ b = q) W3 (.slice (some ⟨w2.heap.size + 1, 0, none⟩) 1 1) [97] :=
        ⟨rfl, .inr ⟨_, _, _, rfl, by decide, by decide, ⟨by omega, by omega⟩, hl3, fun i u hu => by
          cases i with
          | zero => simp [byteCells] at hu; subst hu; exact hc3
          | succ i => simp [byteCells] at hu⟩⟩
      have Hal3 := Lib.hid (Hal2.out.keepM hb3)
      have HO := Lib.hid (roffer_write p q 0 1 1 1 1 10 _ _ _ _ _ [97] _ W3 Hal3.out n1 hv3 (by decide) (by omega) (by omega) (by rw [n3]; omega) nl (by omega) (by omega) (by rw [n2]; decide) (by rw [n2]; exact has_one))
      rw [nt, pc] at HO
      rw [hW3]
      clear hW3 kc hc3 hv3
      obtain ⟨A, hA⟩ : ∃ A, w2.heap.size = A := ⟨_, rfl⟩
      rw [hA] at hi3 HO hpq' hqlt ⊢
      clear hA
      refine HO.out.mono ?_
      rintro e w4 ⟨rfl, hal4, hs4⟩
      have F2 := Lib.hid ((F1.out.trans (Sm.of_below' hb3 _)).trans (hs4.mono (fun b hb => ⟨by omega, by omega⟩)))
      have hi4 := (hs4.block A (show ¬ A = p ∧ ¬ A = q by omega) (Array.getElem?_eq_some_iff.1 hi3).1).trans hi3
      obtain ⟨g2, hg2⟩ : ∃ g2, g1.adds [⟨1, 1, [97]⟩] = g2 := ⟨_, rfl⟩
      rw [hg2] at p1 p4 pm pt ptt pl m5 hal4
      rw [na] at p4
      clear hg2 p2 p3 pc hok2 HO Hal3 Hal2 Hal hb3 hl3 n1 n2 n3 nt nl na
      have hinf2 := rinfo_lead p q 0 1 2 1 1 10 0 (.int .i64 0) (.int .i64 10) (.slice none 0 0) g2 w4 hal4 p1 (by omega) (by omega)
      rw [pm] at hinf2
      have Hinf2 := Lib.hid hinf2
      have Hal4 := Lib.hid hal4
      have P4 := Lib.hid p4
      have Pm := Lib.hid pm
      have Pt := Lib.hid pt
      have Ptt := Lib.hid ptt
      have M5 := Lib.hid m5
      clear hal4 hinf2 p4 pm pt ptt m5
      go_wp2_with fail
      refine Hinf2.out.mono ?_
      rintro e w5 ⟨rfl, hb5⟩
      have Hal5 := Lib.hid (Hal4.out.keepM hb5)
      have F3 := Lib.hid (F2.out.trans (Sm.of_below' hb5 _))
      have hi5 := blk_keep hb5 hi4
      clear Hinf2 hi4 hi3
      go_wp2_with fail
      obtain ⟨W6, hW6⟩ : ∃ W6, (w5.alloc (.cells #[.int .i64 1, .int .i64 0, .int .i64 3, .int .i64 0, .int .i64 2, .int .i64 1, .int .i64 (bestGo [1, 0, 0, 0, 0] 1 5)] 48)).alloc (.cells #[.int .u8 3] 5) = W6 := ⟨_, rfl⟩
      have hb6 : Below w5.heap.size w5 W6 := by rw [← hW6]; exact below_alloc (box_below w5 _) _
      have hi6 := blk_keep hb6 hi5
      have hj6 : W6.heap[w5.heap.size]? = some (.cells #[.int .i64 1, .int .i64 0, .int .i64 3, .int .i64 0, .int .i64 2, .int .i64 1, .int .i64 (bestGo [1, 0, 0, 0, 0] 1 5)] 48 (0, 0)) := by rw [← hW6]; exact blk_alloc (blk_new w5 _) _
      have hbk : W6.heap[w5.heap.size + 1]? = some (.cells #[.int .u8 3] 5 (0, 0)) := by
        rw [← hW6]
        have := blk_new (w5.alloc (.cells #[.int .i64 1, .int .i64 0, .int .i64 3, .int .i64 0, .int .i64 2, .int .i64 1, .int .i64 (bestGo [1, 0, 0, 0, 0] 1 5)] 48)) (.cells #[.int .u8 3] 5)
        rw [World.size_alloc] at this
        exact this
      have hsz5 := hb5.size
      have hsz4 := (Array.getElem?_eq_some_iff.1 hi5).1
      have hv6 : Bytes (fun b => ¬ b = p ∧ ¬ b = q) W6 (.slice (some ⟨w5.heap.size + 1, 0, none⟩) 1 1) [3] := RowAt.of_blk (cs := [.int .u8 3]) hbk ⟨by omega, by omega⟩ rfl (by decide)
      have HO2 := Lib.hid (roffer_two p q 1 2 1 1 10 _ _ _ _ _ g2 W6 (Hal5.out.keepM hb6) p1 hv6 (by omega) (by omega) (by rw [Ptt.out]; omega) pl Pm.out (by rw [M5.out]; omega) (by have := p1.topTerm; rw [Pt.out, Ptt.out] at this; exact this) (by rw [P4.out]; omega) (by omega))
      have hok3 : okSeq g2.topTerm [⟨2, 1, [3]⟩] = true := by rw [Ptt.out]; decide
      obtain ⟨r1, r2, r3, r4, -, -⟩ := p1.adds [⟨2, 1, [3]⟩] hok3 pl
      have rm : (g2.adds [⟨2, 1, [3]⟩]).mem = 3 := by rw [p1.mem_add hok3 pl]; rfl
      have rc : newCommit (g2.adds [⟨2, 1, [3]⟩]) 1 2 0 [0, 0, 0, 0, 0] = 2 := commit_two r1 rm (by omega)
      rw [Pt.out, rc] at HO2
      obtain ⟨g3, hg3⟩ : ∃ g3, g2.adds [⟨2, 1, [3]⟩] = g3 := ⟨_, rfl⟩
      rw [hg3] at r1 rm HO2
      rw [hW6]
      clear hW6 hv6 hbk r2 r3 r4 rc hok3 hg3 hi5
      obtain ⟨A2, hA2⟩ : ∃ A2, w5.heap.size = A2 := ⟨_, rfl⟩
      rw [hA2] at hj6 HO2 hsz5 hsz4 ⊢
      clear hA2
      refine HO2.out.mono ?_
      rintro e w7 ⟨⟨pv, rfl⟩, hal7, hs7⟩
      have F4 := Lib.hid ((F3.out.trans (Sm.of_below' hb6 _)).trans (hs7.mono (fun b hb => ⟨by omega, by omega⟩)))
      have hi7 := (hs7.block A (show ¬ A = p ∧ ¬ A = q by omega) (Array.getElem?_eq_some_iff.1 hi6).1).trans hi6
      have hj7 := (hs7.block A2 (show ¬ A2 = p ∧ ¬ A2 = q by omega) (Array.getElem?_eq_some_iff.1 hj6).1).trans hj6
      have hinf3 := rinfo_lead p q 0 1 2 1 1 10 0 (.int .i64 0) (.int .i64 10) (.slice none 0 0) g3 w7 hal7 r1 (by omega) (by omega)
      rw [rm] at hinf3
      have Hinf3 := Lib.hid hinf3
      clear hal7 hinf3 HO2 rm r1 hi6 hj6 hs7
      go_wp2_with fail
      refine Hinf3.out.mono ?_
      rintro e w8 ⟨rfl, hb8⟩
      have hi8 := blk_keep hb8 hi7
      have hj8 := blk_keep hb8 hj7
      clear hi7 hj7 Hinf3
      have i0 := fun o => (cells7 (blk_alloc hi8 o)).1.1
      have i2 := fun o => (cells7 (blk_alloc hi8 o)).1.2.2.1
      have i4 := fun o => (cells7 (blk_alloc hi8 o)).1.2.2.2.2.1
      have j4 := fun o => (cells7 (blk_alloc hj8 o)).1.2.2.2.2.1
      clear hi8 hj8
      go_wp2_with fail
      go_ret
      exact ⟨rfl, (((F4.out.trans (Sm.of_below' hb8 _)).alloc _)).below_lt⟩
    · have hk9 : k ≤ 9 := by omega
      have hk10 : (k : Int) < 10 := by omega
      go_wp2_with fail
      refine (Htick.out p k wr hk9 HPk.out).mono ?_
      rintro e w2 ⟨rfl, hph2, hsm2⟩
      have F1 := Lib.hid (F0.out.trans (hsm2.mono (fun b hb => by omega)))
      have HP2 := Lib.hid hph2
      clear hph2
      go_wp2_with fail
      exact ⟨⟨k + 1, by simp, by omega, HP2.out, F1.out⟩, by simp only [intOf]; omega⟩
end Go.Proofs.YtahagecdebadfaaGreat

namespace Go.Proofs.YtahagecdebadfaaGreat
open Go.RowKit

/-- What a reader has: its bytes, its error. A number, bytes, an entry, and what is left. -/
def rdNum (size : Nat) (st : List UInt8 × Int) : Int × (List UInt8 × Int) :=
  if st.2 ≠ 0 then (0, st) else if st.1.length < size then (0, (st.1, 10)) else ((beVal (st.1.take size) : Nat), (st.1.drop size, 0))
def rdBytes (size : Nat) (st : List UInt8 × Int) : List UInt8 × (List UInt8 × Int) :=
  if st.2 ≠ 0 then ([], st) else if (cutOf size st.1).2.2 ≠ 0 then ([], (st.1, (cutOf size st.1).2.2)) else ((cutOf size st.1).1, (st.1.drop (cutOf size st.1).2.1, 0))
def rdEnt (st : List UInt8 × Int) : Ent × (List UInt8 × Int) :=
  (⟨(rdNum 1 st).1 - 64, (rdNum 6 (rdNum 1 st).2).1, (rdBytes 2 (rdNum 6 (rdNum 1 st).2).2).1⟩, (rdBytes 2 (rdNum 6 (rdNum 1 st).2).2).2)

theorem rdNum_len (size : Nat) (st : List UInt8 × Int) : (rdNum size st).2.1.length ≤ st.1.length := by
  unfold rdNum
  by_cases h : st.2 ≠ 0
  · rw [if_pos h]; exact Nat.le_refl _
  · rw [if_neg h]
    by_cases h2 : st.1.length < size
    · rw [if_pos h2]; exact Nat.le_refl _
    · rw [if_neg h2]; simp
theorem rdNum_lt (size : Nat) (st : List UInt8 × Int) : 0 ≤ (rdNum size st).1 ∧ (rdNum size st).1 < ((256 ^ size : Nat) : Int) := by
  have hp : 0 < 256 ^ size := Nat.pow_pos (by omega)
  unfold rdNum
  by_cases h : st.2 ≠ 0
  · rw [if_pos h]; exact ⟨Int.le_refl _, by show (0 : Int) < _; omega⟩
  · rw [if_neg h]
    by_cases h2 : st.1.length < size
    · rw [if_pos h2]; exact ⟨Int.le_refl _, by show (0 : Int) < _; omega⟩
    · rw [if_neg h2]
      have := beVal_lt (st.1.take size)
      rw [List.length_take, Nat.min_eq_left (by omega)] at this
      exact ⟨by show (0 : Int) ≤ ((beVal (st.1.take size) : Nat) : Int); omega, by show ((beVal (st.1.take size) : Nat) : Int) < _; omega⟩
theorem rdBytes_len (size : Nat) (st : List UInt8 × Int) : (rdBytes size st).2.1.length ≤ st.1.length := by
  unfold rdBytes
  by_cases h : st.2 ≠ 0
  · rw [if_pos h]; exact Nat.le_refl _
  · rw [if_neg h]
    by_cases h2 : (cutOf size st.1).2.2 ≠ 0
    · rw [if_pos h2]; exact Nat.le_refl _
    · rw [if_neg h2]; simp

theorem RdAt.keep {T : TypeId} {S : Nat → Prop} {w w' : World} {g : Nat} {xs : List UInt8} {er : Int} (h : RdAt T S w g xs er) (hb : Below w.heap.size w w') : RdAt T S w' g xs er := by
  obtain ⟨hS, v, h1, h2⟩ := h
  exact ⟨hS, v, blk_keep hb h1, h2.keep hb⟩
theorem RdAt.mono {T : TypeId} {S S' : Nat → Prop} {w : World} {g : Nat} {xs : List UInt8} {er : Int} (h : RdAt T S w g xs er) (hS : ∀ b, b < w.heap.size → S b → S' b) (hg : ¬ S' g) : RdAt T S' w g xs er := by
  obtain ⟨-, v, h1, h2⟩ := h
  exact ⟨hg, v, h1, h2.mono hS⟩
theorem RdAt.set {T : TypeId} {S : Nat → Prop} {w : World} {g b k : Nat} {xs : List UInt8} {er : Int} (h : RdAt T S w g xs er) (hb : ¬ S b) (hne : g ≠ b) (u : Value) : RdAt T S (w.setCell ⟨b, k, none⟩ u) g xs er := by
  obtain ⟨hg, v, h1, h2⟩ := h
  exact ⟨hg, v, (Below.heap_setCell w ⟨b, k, none⟩ u g hne).trans h1, h2.keepS ((Same.refl _ _).setCell hb _)⟩
theorem grown_new {w w' : World} {r : Option Nat} (h : w.grownBy w' r) {b k : Nat} (hb : w.heap.size ≤ b) (u : Value) : w.grownBy (w'.setCell ⟨b, k, none⟩ u) r :=
  ⟨h.os, h.tape, h.output, by simp [World.setCell]; exact h.size, fun i hi hne => (Below.heap_setCell w' ⟨b, k, none⟩ u i (by simp; omega)).trans (h.block i hi hne)⟩
theorem RdAt.lt {T : TypeId} {S : Nat → Prop} {w : World} {g : Nat} {xs : List UInt8} {er : Int} (h : RdAt T S w g xs er) : g < w.heap.size := by
  obtain ⟨hS, v, h1, h2⟩ := h
  exact (Array.getElem?_eq_some_iff.1 h1).1

theorem grown_blk {w w' : World} {r : Option Nat} (h : w.grownBy w' r) {b : Nat} {o : Obj} (hne : some b ≠ r) (hb : w.heap[b]? = some o) : w'.heap[b]? = some o :=
  (h.block b (Array.getElem?_eq_some_iff.1 hb).1 hne).trans hb

end Go.Proofs.YtahagecdebadfaaGreat

namespace Go.Proofs.YtahagecdebadfaaGreat
open Go.RowKit

/-- What bytes are as an entry, and what is wrong of them. -/
def unpOf (xs : List UInt8) : Ent × Int :=
  if endOf (rdEnt (xs, 0)).2.1 (rdEnt (xs, 0)).2.2 ≠ 0 then (⟨0, 0, []⟩, endOf (rdEnt (xs, 0)).2.1 (rdEnt (xs, 0)).2.2)
  else if rightB (rdEnt (xs, 0)).1 = true then ((rdEnt (xs, 0)).1, 0) else (⟨0, 0, []⟩, 1)

theorem rdEnt_in (st : List UInt8 × Int) : -64 ≤ (rdEnt st).1.kind ∧ (rdEnt st).1.kind < 192 ∧ 0 ≤ (rdEnt st).1.term ∧ (rdEnt st).1.term < 281474976710656 := by
  have n1 := rdNum_lt 1 st
  have n6 := rdNum_lt 6 (rdNum 1 st).2
  have h1 : (rdNum 1 st).1 < 256 := by simpa using n1.2
  have h6 : (rdNum 6 (rdNum 1 st).2).1 < 281474976710656 := by simpa using n6.2
  exact ⟨by show -64 ≤ (rdNum 1 st).1 - 64; omega, by show (rdNum 1 st).1 - 64 < 192; omega, n6.1, h6⟩

end Go.Proofs.YtahagecdebadfaaGreat

namespace Go.Proofs.YtahagecdebadfaaGreat
open Go.RowKit

theorem foldl_val (l : List UInt8) : ∀ a : Nat, l.foldl (fun a b => a * 256 + b.toNat) a = a * 256 ^ l.length + beVal l := by
  induction l with
  | nil => intro a; simp [beVal]
  | cons x l ih =>
    intro a
    have h1 := ih (a * 256 + x.toNat)
    have h2 := ih (0 * 256 + x.toNat)
    show l.foldl _ (a * 256 + x.toNat) = _
    have e : beVal (x :: l) = l.foldl (fun a b => a * 256 + b.toNat) (0 * 256 + x.toNat) := rfl
    rw [h1, e, h2, List.length_cons, Nat.pow_succ, Nat.zero_mul, Nat.zero_add, Nat.add_mul, Nat.mul_assoc a 256, Nat.mul_comm 256 (256 ^ l.length), Nat.add_assoc]
theorem beVal_cons (x : UInt8) (l : List UInt8) : beVal (x :: l) = x.toNat * 256 ^ l.length + beVal l := by
  have := foldl_val l (0 * 256 + x.toNat)
  show l.foldl (fun a b => a * 256 + b.toNat) (0 * 256 + x.toNat) = _
  rw [this, Nat.zero_mul, Nat.zero_add]
theorem byteOf_add (a n i k : Nat) (h : i < k) : byteOf (a * 256 ^ k + n) i = byteOf n i := by
  unfold byteOf
  apply UInt8.toNat_inj.1
  show (a * 256 ^ k + n) / 256 ^ i % 256 = n / 256 ^ i % 256
  obtain ⟨d, rfl⟩ : ∃ d, k = i + 1 + d := ⟨k - i - 1, by omega⟩
  have hp : 0 < 256 ^ i := Nat.pow_pos (by omega)
  have e : a * 256 ^ (i + 1 + d) = (a * 256 ^ d * 256) * 256 ^ i := by
    rw [show i + 1 + d = d + 1 + i by omega, Nat.pow_add, Nat.pow_add, Nat.pow_one]
    rw [Nat.mul_assoc (a * 256 ^ d), ← Nat.mul_assoc a, ← Nat.mul_assoc a, Nat.mul_assoc (a * 256 ^ d)]
  rw [e, Nat.add_comm, Nat.add_mul_div_right _ _ hp]
  omega
theorem be_add (a n : Nat) : ∀ (j k : Nat), j ≤ k → be j (a * 256 ^ k + n) = be j n
  | 0, _, _ => rfl
  | j + 1, k, h => by
    show byteOf _ j :: be j _ = byteOf n j :: be j n
    rw [byteOf_add a n j k (by omega), be_add a n j k (by omega)]
theorem be_beVal : ∀ l : List UInt8, be l.length (beVal l) = l
  | [] => rfl
  | x :: l => by
    rw [List.length_cons, beVal_cons]
    show byteOf _ l.length :: be l.length _ = _
    rw [be_add _ _ _ _ (Nat.le_refl _), be_beVal l]
    congr 1
    unfold byteOf
    apply UInt8.toNat_inj.1
    show (x.toNat * 256 ^ l.length + beVal l) / 256 ^ l.length % 256 = x.toNat
    have hp : 0 < 256 ^ l.length := Nat.pow_pos (by omega)
    have hx := x.toNat_lt
    rw [Nat.add_comm, Nat.add_mul_div_right _ _ hp, Nat.div_eq_of_lt (beVal_lt l)]
    omega
theorem beVal_be (k n : Nat) (h : n < 256 ^ k) : beVal (be k n) = n := by
  have h1 := be_beVal (be k n)
  rw [be_length] at h1
  have key : ∀ k a b, a < 256 ^ k → b < 256 ^ k → be k a = be k b → a = b := by
    intro k
    induction k with
    | zero => intro a b ha hb _; simp at ha hb; omega
    | succ k ih =>
      intro a b ha hb he
      have hp : 0 < 256 ^ k := Nat.pow_pos (by omega)
      have e1 : byteOf a k = byteOf b k := by injection he
      have e2 : be k a = be k b := by injection he
      have q : a / 256 ^ k = b / 256 ^ k := by
        have := congrArg UInt8.toNat e1
        have h2 : a / 256 ^ k % 256 = b / 256 ^ k % 256 := this
        rw [Nat.pow_succ] at ha hb
        have ha' : a / 256 ^ k < 256 := Nat.div_lt_of_lt_mul ha
        have hb' : b / 256 ^ k < 256 := Nat.div_lt_of_lt_mul hb
        generalize a / 256 ^ k = x at *
        generalize b / 256 ^ k = y at *
        omega
      have ra : a = (a / 256 ^ k) * 256 ^ k + a % 256 ^ k := by rw [Nat.mul_comm]; exact (Nat.div_add_mod a _).symm
      have rb : b = (b / 256 ^ k) * 256 ^ k + b % 256 ^ k := by rw [Nat.mul_comm]; exact (Nat.div_add_mod b _).symm
      have e3 : be k (a % 256 ^ k) = be k (b % 256 ^ k) := by
        have a1 := be_add (a / 256 ^ k) (a % 256 ^ k) k k (Nat.le_refl _)
        have b1 := be_add (b / 256 ^ k) (b % 256 ^ k) k k (Nat.le_refl _)
        rw [← ra] at a1
        rw [← rb] at b1
        rw [← a1, ← b1, e2]
      have := ih _ _ (Nat.mod_lt a hp) (Nat.mod_lt b hp) e3
      rw [ra, rb, q, this]
  exact key k _ _ (by have := beVal_lt (be k n); rwa [be_length] at this) h h1

/-! Reading back what was written. -/
theorem rdNum_be (size n : Nat) (rest : List UInt8) (h : n < 256 ^ size) : rdNum size (be size n ++ rest, 0) = ((n : Int), (rest, 0)) := by
  unfold rdNum
  rw [if_neg (by simp), if_neg (by simp [be_length])]
  have hl := be_length size n
  have e1 : (be size n ++ rest).take size = be size n := by
    rw [List.take_append_of_le_length (by omega), List.take_of_length_le (by omega)]
  have e2 : (be size n ++ rest).drop size = rest := by
    rw [List.drop_append_of_le_length (by omega), List.drop_of_length_le (by omega), List.nil_append]
  show (((beVal ((be size n ++ rest).take size) : Nat) : Int), ((be size n ++ rest).drop size, (0 : Int))) = _
  rw [e1, e2, beVal_be size n h]
theorem cutOf_be (size : Nat) (p rest : List UInt8) (h : p.length < 256 ^ size) (h2 : p.length ≤ 65536) : cutOf size (be size p.length ++ p ++ rest) = (p, size + p.length, 0) := by
  unfold cutOf
  have hl := be_length size p.length
  have e1 : (be size p.length ++ p ++ rest).take size = be size p.length := by
    rw [List.append_assoc, List.take_append_of_le_length (by omega), List.take_of_length_le (by omega)]
  have e2 : (be size p.length ++ p ++ rest).drop size = p ++ rest := by
    rw [List.append_assoc, List.drop_append_of_le_length (by omega), List.drop_of_length_le (by omega), List.nil_append]
  rw [e1, e2, beVal_be _ _ h, if_neg (by simp [hl]), if_neg (by omega), if_neg (by simp [hl])]
  simp
theorem rdBytes_be (size : Nat) (p rest : List UInt8) (h : p.length < 256 ^ size) (h2 : p.length ≤ 65536) : rdBytes size (be size p.length ++ p ++ rest, 0) = (p, (rest, 0)) := by
  unfold rdBytes
  rw [if_neg (by simp)]
  have e := cutOf_be size p rest h h2
  have hl := be_length size p.length
  show (if (cutOf size (be size p.length ++ p ++ rest)).2.2 ≠ 0 then _ else _) = _
  rw [e, if_neg (by simp)]
  show (p, ((be size p.length ++ p ++ rest).drop (size + p.length), (0 : Int))) = _
  have e2 : (be size p.length ++ p ++ rest).drop (size + p.length) = rest := by
    rw [List.drop_append_of_le_length (by simp [hl]), List.drop_of_length_le (by simp [hl]), List.nil_append]
  rw [e2]
theorem rdEnt_enc (e : Ent) (rest : List UInt8) (h : rightB e = true) : rdEnt (encE e ++ rest, 0) = (e, (rest, 0)) := by
  obtain ⟨k0, k2, t1, t2, cl⟩ := rightB_facts h
  have e1 : encE e ++ rest = be 1 (e.kind + 64).toNat ++ (be 6 e.term.toNat ++ (be 2 e.cmd.length ++ e.cmd ++ rest)) := by simp [encE, List.append_assoc]
  have e2 := rdNum_be 1 (e.kind + 64).toNat (be 6 e.term.toNat ++ (be 2 e.cmd.length ++ e.cmd ++ rest)) (by omega)
  have e3 := rdNum_be 6 e.term.toNat (be 2 e.cmd.length ++ e.cmd ++ rest) (by omega)
  have e4 := rdBytes_be 2 e.cmd rest (by omega) (by omega)
  unfold rdEnt
  rw [e1, e2]
  simp only []
  rw [e3]
  simp only []
  rw [e4]
  obtain ⟨k, t, c⟩ := e
  simp only at k0 t1 ⊢
  congr 2
  · omega
  · omega
theorem unp_enc (e : Ent) (h : rightB e = true) : unpOf (encE e) = (e, 0) := by
  have := rdEnt_enc e [] h
  rw [List.append_nil] at this
  unfold unpOf
  rw [this]
  simp [endOf, h]

theorem rdNum_inv (size : Nat) (st : List UInt8 × Int) (h : (rdNum size st).2.2 = 0) : st.2 = 0 ∧ st.1 = be size (rdNum size st).1.toNat ++ (rdNum size st).2.1 := by
  unfold rdNum at *
  by_cases he : st.2 ≠ 0
  · rw [if_pos he] at h; exact absurd h he
  · rw [if_neg he] at h ⊢
    by_cases hl : st.1.length < size
    · rw [if_pos hl] at h; simp at h
    · rw [if_neg hl]
      refine ⟨by omega, ?_⟩
      show st.1 = be size ((beVal (st.1.take size) : Nat) : Int).toNat ++ st.1.drop size
      have := be_beVal (st.1.take size)
      rw [List.length_take, Nat.min_eq_left (by omega)] at this
      rw [Int.toNat_natCast, this, List.take_append_drop]
theorem rdBytes_inv (size : Nat) (st : List UInt8 × Int) (h : (rdBytes size st).2.2 = 0) : st.2 = 0 ∧ st.1 = be size (rdBytes size st).1.length ++ (rdBytes size st).1 ++ (rdBytes size st).2.1 := by
  unfold rdBytes at *
  by_cases he : st.2 ≠ 0
  · rw [if_pos he] at h; exact absurd h he
  · rw [if_neg he] at h ⊢
    by_cases hc : (cutOf size st.1).2.2 ≠ 0
    · rw [if_pos hc] at h; exact absurd h hc
    · rw [if_neg hc]
      refine ⟨by omega, ?_⟩
      show st.1 = be size (cutOf size st.1).1.length ++ (cutOf size st.1).1 ++ st.1.drop (cutOf size st.1).2.1
      have hc0 : (cutOf size st.1).2.2 = 0 := by omega
      clear h hc
      unfold cutOf at *
      by_cases h1 : st.1.length < size
      · rw [if_pos h1] at hc0; exact absurd hc0 (by decide)
      · rw [if_neg h1] at hc0 ⊢
        by_cases h2 : beVal (st.1.take size) > 65536
        · rw [if_pos h2] at hc0; exact absurd hc0 (by decide)
        · rw [if_neg h2] at hc0 ⊢
          by_cases h3 : st.1.length - size < beVal (st.1.take size)
          · rw [if_pos h3] at hc0; exact absurd hc0 (by decide)
          · rw [if_neg h3]
            show st.1 = be size ((st.1.drop size).take (beVal (st.1.take size))).length ++ (st.1.drop size).take (beVal (st.1.take size)) ++ st.1.drop (size + beVal (st.1.take size))
            have hlen : ((st.1.drop size).take (beVal (st.1.take size))).length = beVal (st.1.take size) := by simp; omega
            have hb := be_beVal (st.1.take size)
            rw [List.length_take, Nat.min_eq_left (by omega)] at hb
            rw [hlen, hb, List.append_assoc, ← List.drop_drop, List.take_append_drop, List.take_append_drop]
theorem rdEnt_inv (st : List UInt8 × Int) (h : (rdEnt st).2.2 = 0) : st.2 = 0 ∧ st.1 = encE (rdEnt st).1 ++ (rdEnt st).2.1 := by
  obtain ⟨h3, e3⟩ := rdBytes_inv 2 _ h
  obtain ⟨h2, e2⟩ := rdNum_inv 6 _ h3
  obtain ⟨h1, e1⟩ := rdNum_inv 1 _ h2
  refine ⟨h1, ?_⟩
  have ek : ((rdEnt st).1.kind + 64).toNat = (rdNum 1 st).1.toNat := by
    show ((rdNum 1 st).1 - 64 + 64).toNat = _
    rw [Int.sub_add_cancel]
  unfold encE
  rw [ek]
  show st.1 = be 1 (rdNum 1 st).1.toNat ++ be 6 (rdNum 6 (rdNum 1 st).2).1.toNat ++ be 2 (rdBytes 2 (rdNum 6 (rdNum 1 st).2).2).1.length ++ (rdBytes 2 (rdNum 6 (rdNum 1 st).2).2).1 ++ (rdBytes 2 (rdNum 6 (rdNum 1 st).2).2).2.1
  rw [List.append_assoc, List.append_assoc, List.append_assoc]
  rw [← List.append_assoc (be 2 _), ← e3, ← e2, ← e1]
theorem unp_inv (xs : List UInt8) (h : (unpOf xs).2 = 0) : rightB (unpOf xs).1 = true ∧ encE (unpOf xs).1 = xs := by
  unfold unpOf at *
  by_cases he : endOf (rdEnt (xs, 0)).2.1 (rdEnt (xs, 0)).2.2 ≠ 0
  · rw [if_pos he] at h; exact absurd h he
  · rw [if_neg he] at h ⊢
    by_cases hr : rightB (rdEnt (xs, 0)).1 = true
    · rw [if_pos hr] at h ⊢
      refine ⟨hr, ?_⟩
      have he0 : endOf (rdEnt (xs, 0)).2.1 (rdEnt (xs, 0)).2.2 = 0 := by omega
      unfold endOf at he0
      by_cases h0 : (rdEnt (xs, 0)).2.2 = 0
      · rw [if_pos h0] at he0
        by_cases hl : (rdEnt (xs, 0)).2.1.length = 0
        · have := (rdEnt_inv (xs, 0) h0).2
          rw [List.eq_nil_of_length_eq_zero hl, List.append_nil] at this
          exact this.symm
        · rw [if_neg hl] at he0; exact absurd he0 (by decide)
      · rw [if_neg h0] at he0; exact absurd he0 h0
    · rw [if_neg hr] at h; exact absurd h (by decide)
end Go.Proofs.YtahagecdebadfaaGreat

namespace Go.Proofs.YtahagecdebadfaaGreat
open Go.RowKit

/-- A register's step. -/
def crcT (r : Nat) : Nat := r / 2 ^^^ (if r % 2 = 1 then 2197175160 else 0)
def crcN : Nat → Nat → Nat
  | 0, r => r
  | n + 1, r => crcN n (crcT r)
def crcByte (r c : Nat) : Nat := crcN 8 (r ^^^ c)
def crcRun (r : Nat) (l : List UInt8) : Nat := l.foldl (fun r c => crcByte r c.toNat) r
def crcSum (l : List UInt8) : Nat := 4294967295 ^^^ crcRun 4294967295 l

theorem xor_u32 (a b : Nat) (ha : a < 4294967296) (hb : b < 4294967296) : bits .xor .u32 (a : Int) (b : Int) = ((a ^^^ b : Nat) : Int) := by
  have ha' : a % 2 ^ IntKind.u32.bits = a := Nat.mod_eq_of_lt ha
  have hb' : b % 2 ^ IntKind.u32.bits = b := Nat.mod_eq_of_lt hb
  have hx : a ^^^ b < 2 ^ 32 := Nat.xor_lt_two_pow ha hb
  simp only [bits, BitVec.ofInt_natCast, BitVec.toNat_xor, BitVec.toNat_ofNat, ha', hb']
  rw [IntKind.wrap_u32]
  omega
theorem and_u32 (a b : Nat) (ha : a < 4294967296) (hb : b < 4294967296) : bits .and .u32 (a : Int) (b : Int) = ((a &&& b : Nat) : Int) :=
  (bits_nat .u32 32 (by decide) (fun n h0 h1 => by rw [IntKind.wrap_u32]; omega) a b ha hb).1
theorem crcT_lt (r : Nat) (h : r < 4294967296) : crcT r < 4294967296 := by
  unfold crcT
  refine Nat.xor_lt_two_pow (n := 32) (by omega) ?_
  split <;> decide
theorem crcN_lt : ∀ (n r : Nat), r < 4294967296 → crcN n r < 4294967296
  | 0, _, h => h
  | n + 1, r, h => crcN_lt n _ (crcT_lt r h)
theorem crcN_succ : ∀ (n r : Nat), crcN (n + 1) r = crcT (crcN n r)
  | 0, _ => rfl
  | n + 1, r => crcN_succ n (crcT r)
theorem crcRun_lt (l : List UInt8) (r : Nat) (h : r < 4294967296) : crcRun r l < 4294967296 := by
  refine snoc_ind' (P := fun l => crcRun r l < 4294967296) ?_ ?_ l
  · exact h
  · intro l b ih
    show List.foldl _ r (l ++ [b]) < _
    rw [List.foldl_append]
    exact crcN_lt 8 _ (Nat.xor_lt_two_pow (n := 32) ih (by have := b.toNat_lt; omega))
theorem crcRun_snoc (r : Nat) (l : List UInt8) (b : UInt8) : crcRun r (l ++ [b]) = crcByte (crcRun r l) b.toNat := by
  unfold crcRun; rw [List.foldl_append]; rfl

theorem crc_step (z : Nat) (h : z < 4294967296) : bits .xor .u32 ((z : Int) / 2) (bits .and .u32 2197175160 (-bits .and .u32 (z : Int) 1 % 4294967296)) = (crcT z : Int) := by
  have h1 : bits .and .u32 (z : Int) 1 = ((z &&& 1 : Nat) : Int) := and_u32 z 1 h (by decide)
  have h2 : (z : Int) / 2 = ((z / 2 : Nat) : Int) := by omega
  rw [h1, h2, Nat.and_one_is_mod]
  have h3 : bits .and .u32 2197175160 (-((z % 2 : Nat) : Int) % 4294967296) = ((if z % 2 = 1 then 2197175160 else 0 : Nat) : Int) := by
    by_cases hz : z % 2 = 1
    · rw [hz, if_pos rfl]; decide
    · have : z % 2 = 0 := by omega
      rw [this, if_neg (by decide)]; decide
  rw [h3, xor_u32 _ _ (by omega) (by split <;> decide)]
  rfl

/-- The reference's register, its byte's bits beside it. -/
theorem xor_half (a b : Nat) : (a ^^^ b) / 2 = a / 2 ^^^ b / 2 := by
  have h := Nat.shiftRight_xor_distrib (a := a) (b := b) (i := 1)
  simpa [Nat.shiftRight_eq_div_pow] using h
theorem crcT_xor (r d : Nat) : crcT (r ^^^ d) = (r / 2 ^^^ (if (r ^^^ d) % 2 = 1 then 2197175160 else 0)) ^^^ d / 2 := by
  unfold crcT
  rw [xor_half, Nat.xor_assoc, Nat.xor_comm (d / 2), ← Nat.xor_assoc]

theorem step_eq (x n z : Nat) (hz : z = x ^^^ n) : crcT z ^^^ (n / 2) = x / 2 ^^^ (if z % 2 = 1 then 2197175160 else 0) := by
  rw [hz, crcT_xor, Nat.xor_assoc, Nat.xor_self, Nat.xor_zero]

theorem crcSum_lt (l : List UInt8) : crcSum l < 4294967296 := Nat.xor_lt_two_pow (n := 32) (by decide) (crcRun_lt l _ (by decide))
end Go.Proofs.YtahagecdebadfaaGreat

namespace Go.Proofs.YtahagecdebadfaaGreat
open Go.RowKit

structure Msg where
  kind : Int
  src : Int
  dst : Int
  term : Int
  at_ : Int
  atTerm : Int
  commit : Int
  round : Int
  yes : Bool
  l : List Ent
  data : List UInt8

/-- The cells of a message, its entries at vl, its data at vd. -/
def msgCells (m : Msg) (vl vd : Value) : List Value :=
  [.int .i64 m.kind, .int .i64 m.src, .int .i64 m.dst, .int .i64 m.term, .int .i64 m.at_, .int .i64 m.atTerm, .int .i64 m.commit, .int .i64 m.round, .bool m.yes, vl, vd]
def MsgAt (S : Nat → Prop) (w : World) (m : Msg) (vl vd : Value) : Prop :=
  Ents S w vl m.l ∧ Bytes S w vd m.data ∧ (in64 m.kind ∧ in64 m.src ∧ in64 m.dst ∧ in64 m.term ∧ in64 m.at_ ∧ in64 m.atTerm ∧ in64 m.commit ∧ in64 m.round)
theorem MsgAt.keepS {S : Nat → Prop} {w w' : World} {m : Msg} {vl vd : Value} (h : MsgAt S w m vl vd) (hs : Same S w w') : MsgAt S w' m vl vd := ⟨h.1.keepS hs, h.2.1.keepS hs, h.2.2⟩
theorem MsgAt.keep {S : Nat → Prop} {w w' : World} {m : Msg} {vl vd : Value} (h : MsgAt S w m vl vd) (hb : Below w.heap.size w w') : MsgAt S w' m vl vd := ⟨h.1.keep hb, h.2.1.keep hb, h.2.2⟩
theorem MsgAt.mono {S T : Nat → Prop} {w : World} {m : Msg} {vl vd : Value} (h : MsgAt S w m vl vd) (hT : ∀ b, b < w.heap.size → S b → T b) : MsgAt T w m vl vd := ⟨h.1.mono hT, h.2.1.mono hT, h.2.2⟩

theorem cells11 {w : World} {b : Nat} {x0 x1 x2 x3 x4 x5 x6 x7 x8 x9 x10 : Value} {t : TypeId} (h : w.heap[b]? = some (.cells #[x0, x1, x2, x3, x4, x5, x6, x7, x8, x9, x10] t (0, 0))) :
    (w.cell? ⟨b, 0, none⟩ = some x0 ∧ w.cell? ⟨b, 1, none⟩ = some x1 ∧ w.cell? ⟨b, 2, none⟩ = some x2 ∧ w.cell? ⟨b, 3, none⟩ = some x3 ∧ w.cell? ⟨b, 4, none⟩ = some x4 ∧ w.cell? ⟨b, 5, none⟩ = some x5 ∧
      w.cell? ⟨b, 6, none⟩ = some x6 ∧ w.cell? ⟨b, 7, none⟩ = some x7 ∧ w.cell? ⟨b, 8, none⟩ = some x8 ∧ w.cell? ⟨b, 9, none⟩ = some x9 ∧ w.cell? ⟨b, 10, none⟩ = some x10) ∧
    ∀ k, w.frozen? ⟨b, k, none⟩ = false ∨ 11 ≤ k := by
  refine ⟨by simp [World.cell?, h], fun k => ?_⟩
  by_cases hk : k < 11
  · left; simp [World.frozen?, h]
  · right; omega

/-- Nothing in it is longer than memory. -/
def Fine (m : Msg) : Prop := m.data.length ≤ 140737488355328 ∧ ∀ e ∈ m.l, e.cmd.length ≤ 140737488355328

def entsSize (l : List Ent) : Nat := (l.map fun e => 9 + e.cmd.length).sum
def msgSize (m : Msg) : Nat := 45 + m.data.length + entsSize m.l
def longB (m : Msg) : Bool := decide (4096 < m.l.length) || decide (65536 < m.data.length) || decide (65536 < msgSize m)
theorem entsSize_snoc (l : List Ent) (e : Ent) : entsSize (l ++ [e]) = entsSize l + (9 + e.cmd.length) := by simp [entsSize]
theorem entsSize_take_le (l : List Ent) (k : Nat) : entsSize (l.take k) ≤ entsSize l := by
  have h := congrArg entsSize (List.take_append_drop k l)
  have e : entsSize (l.take k ++ l.drop k) = entsSize (l.take k) + entsSize (l.drop k) := by
    unfold entsSize
    rw [List.map_append, List.sum_append]
  omega

theorem ret_bool {a b : Bool} (h : a = b) : Ending.returned (.bool a) = .returned (.bool b) := by rw [h]

end Go.Proofs.YtahagecdebadfaaGreat

namespace Go.Proofs.YtahagecdebadfaaGreat
open Go.RowKit

theorem nil_new (w : World) : Calls Tryz.prog 8 #[.int .i64 0, .int .i64 0, .int .i64 (-1), .pointer none, .int .i64 0] w fun e w' => e = .returned (.tuple #[.pointer none, .int .i64 2]) ∧ Below w.heap.size w w' := by
  go_enter Tryz.func8, Tryz.ntmps8
  go_wp2_with fail
  go_ret2
  exact ⟨rfl, Below.refl _ _⟩
theorem nil_draw (n : Int) (w : World) : Calls Tryz.prog 21 #[.pointer none, .int .i64 n] w fun e w' => e = .returned (.tuple #[]) ∧ Below w.heap.size w w' := by
  go_enter Tryz.func21, Tryz.ntmps21
  go_wp2_with fail
  go_end0
  exact ⟨rfl, Below.refl _ _⟩
theorem nil_offer (k : Int) (v : Value) (w : World) : Calls Tryz.prog 18 #[.pointer none, .int .i64 k, v] w fun e w' => e = .returned (.tuple #[.int .i64 0, .slice none 0 0, .int .i64 2]) ∧ Below w.heap.size w w' := by
  go_enter Tryz.func18, Tryz.ntmps18
  go_wp2_with fail
  go_ret3
  exact ⟨rfl, box_below _ _⟩
def msg0V : Value := .agg #[.int .i64 0, .int .i64 0, .int .i64 0, .int .i64 0, .int .i64 0, .int .i64 0, .int .i64 0, .int .i64 0, .bool false, .slice none 0 0, .slice none 0 0]
theorem nil_part (n : Int) (v : Value) (w : World) : Calls Tryz.prog 22 #[.pointer none, .int .i64 n, v] w fun e w' => e = .returned (.tuple #[msg0V, .int .i64 2]) ∧ Below w.heap.size w w' := by
  go_enter Tryz.func22, Tryz.ntmps22
  go_wp2_with fail
  obtain ⟨⟨c0, c1, c2, c3, c4, c5, c6, c7, c8, c9, c10⟩, -⟩ := cells11' (blk_new w (.cells #[.int .i64 0, .int .i64 0, .int .i64 0, .int .i64 0, .int .i64 0, .int .i64 0, .int .i64 0, .int .i64 0, .bool false, .slice none 0 0, .slice none 0 0] 42))
  exact bodyPost_ret (v := .tuple #[msg0V, .int .i64 2]) (by simp [results, Tryz.results22, go_sem, c0, c1, c2, c3, c4, c5, c6, c7, c8, c9, c10, msg0V]) rfl ⟨rfl, box_below _ _⟩
theorem nil_info (w : World) : Calls Tryz.prog 12 #[.pointer none] w fun e w' => e = .returned (.agg #[.int .i64 0, .int .i64 0, .int .i64 0, .int .i64 0, .int .i64 0, .int .i64 0, .int .i64 0]) ∧ Below w.heap.size w w' := by
  go_enter Tryz.func12, Tryz.ntmps12
  go_wp2_with fail
  obtain ⟨⟨c0, c1, c2, c3, c4, c5, c6⟩, -⟩ := cells7 (blk_new w (.cells #[.int .i64 0, .int .i64 0, .int .i64 0, .int .i64 0, .int .i64 0, .int .i64 0, .int .i64 0] 48))
  exact bodyPost_ret (v := .agg #[.int .i64 0, .int .i64 0, .int .i64 0, .int .i64 0, .int .i64 0, .int .i64 0, .int .i64 0]) (by simp [results, Tryz.results12, go_sem, c0, c1, c2, c3, c4, c5, c6]) rfl ⟨rfl, box_below _ _⟩
theorem nil_log (w : World) : Calls Tryz.prog 24 #[.pointer none] w fun e w' => e = .returned (.pointer none) ∧ Below w.heap.size w w' := by
  go_enter Tryz.func24, Tryz.ntmps24
  go_wp2_with fail
  go_ret
  exact ⟨rfl, Below.refl _ _⟩
theorem nil_tick (w : World) : Calls Tryz.prog 10 #[.pointer none] w fun e w' => e = .returned (.slice none 0 0) ∧ Below w.heap.size w w' := by
  go_enter Tryz.func10, Tryz.ntmps10
  go_wp2_with fail
  go_ret
  exact ⟨rfl, box_below _ _⟩
theorem nil_floor (n : Int) (w : World) : Calls Tryz.prog 20 #[.pointer none, .int .i64 n] w fun e w' => e = .returned (.int .i64 2) ∧ Below w.heap.size w w' := by
  go_enter Tryz.func20, Tryz.ntmps20
  go_wp2_with fail
  go_ret
  exact ⟨rfl, Below.refl _ _⟩
theorem nil_lacking (w : World) : Calls Tryz.prog 26 #[.pointer none] w fun e w' => e = .returned (.slice none 0 0) ∧ Below w.heap.size w w' := by
  go_enter Tryz.func26, Tryz.ntmps26
  go_wp2_with fail
  go_ret
  exact ⟨rfl, below_alloc (box_below _ _) _⟩
theorem nil_parts (w : World) : Calls Tryz.prog 27 #[.pointer none] w fun e w' => e = .returned (.slice none 0 0) ∧ Below w.heap.size w w' := by
  go_enter Tryz.func27, Tryz.ntmps27
  go_wp2_with fail
  go_ret
  exact ⟨rfl, Below.refl _ _⟩
set_option maxRecDepth 100000 in
set_option maxHeartbeats 2000000 in
theorem nil_take (m : Msg) (vl vd : Value) (w : World) : Calls Tryz.prog 13 #[.pointer none, .agg #[.int .i64 m.kind, .int .i64 m.src, .int .i64 m.dst, .int .i64 m.term, .int .i64 m.at_, .int .i64 m.atTerm, .int .i64 m.commit, .int .i64 m.round, .bool m.yes, vl, vd]] w fun e w' => e = .returned (.slice none 0 0) ∧ Below w.heap.size w w' := by
  go_enter Tryz.func13, Tryz.ntmps13
  go_wp2_with fail
  go_ret
  exact ⟨rfl, box_below _ _⟩
set_option maxRecDepth 100000 in
set_option maxHeartbeats 2000000 in
theorem nil_settle (m : Msg) (vl vd : Value) (w : World) : Calls Tryz.prog 23 #[.pointer none, .agg #[.int .i64 m.kind, .int .i64 m.src, .int .i64 m.dst, .int .i64 m.term, .int .i64 m.at_, .int .i64 m.atTerm, .int .i64 m.commit, .int .i64 m.round, .bool m.yes, vl, vd]] w fun e w' => e = .returned (.tuple #[.slice none 0 0, .int .i64 2]) ∧ Below w.heap.size w w' := by
  go_enter Tryz.func23, Tryz.ntmps23
  go_wp2_with fail
  go_ret2
  exact ⟨rfl, box_below _ _⟩
theorem es_nil (w : World) : Calls Tryz.prog 79 #[.slice none 0 0, .slice none 0 0] w fun e w' => e = .returned (.bool true) ∧ Below w.heap.size w w' := by
  go_enter Tryz.func79, Tryz.ntmps79
  go_wp2_with fail
  refine wp_loop_rounds 1 ?_
  rw [rounds_succ]
  go_wp2_with fail
  go_ret
  exact ⟨rfl, Below.refl _ _⟩
set_option maxRecDepth 100000 in
set_option maxHeartbeats 2000000 in
theorem nil_one (w : World) : Calls Tryz.prog 25 #[msg0V, msg0V] w fun e w' => e = .returned (.bool true) ∧ Below w.heap.size w w' := by
  have hs := fun W : World => bytes_str (S := fun _ => True) (w := W) (v := .slice none 0 0) (xs := []) ⟨rfl, .inl ⟨rfl, .inl rfl⟩⟩
  have HE := Lib.hid fun W => es_nil W
  unfold msg0V
  go_enter Tryz.func25, Tryz.ntmps25
  go_wp2_with fail
  refine (HE.out _).mono ?_
  rintro e w1 ⟨rfl, hb1⟩
  have hb2 := below_then (below_alloc (box_below w _) _) hb1
  have B0 := blk_keep hb1 (blk_alloc (blk_new w (.cells #[.int .i64 0, .int .i64 0, .int .i64 0, .int .i64 0, .int .i64 0, .int .i64 0, .int .i64 0, .int .i64 0, .bool false, .slice none 0 0, .slice none 0 0] 42)) (.cells #[.int .i64 0, .int .i64 0, .int .i64 0, .int .i64 0, .int .i64 0, .int .i64 0, .int .i64 0, .int .i64 0, .bool false, .slice none 0 0, .slice none 0 0] 42))
  have B1 := blk_new (w.alloc (.cells #[.int .i64 0, .int .i64 0, .int .i64 0, .int .i64 0, .int .i64 0, .int .i64 0, .int .i64 0, .int .i64 0, .bool false, .slice none 0 0, .slice none 0 0] 42)) (.cells #[.int .i64 0, .int .i64 0, .int .i64 0, .int .i64 0, .int .i64 0, .int .i64 0, .int .i64 0, .int .i64 0, .bool false, .slice none 0 0, .slice none 0 0] 42)
  rw [World.size_alloc] at B1
  replace B1 := blk_keep hb1 B1
  obtain ⟨⟨-, -, -, -, -, -, -, -, -, -, c10⟩, -⟩ := cells11' B0
  obtain ⟨⟨-, -, -, -, -, -, -, -, -, -, d10⟩, -⟩ := cells11' B1
  clear B0 B1 hb1 HE
  go_wp2_with fail
  go_ret
  exact ⟨rfl, hb2⟩
end Go.Proofs.YtahagecdebadfaaGreat

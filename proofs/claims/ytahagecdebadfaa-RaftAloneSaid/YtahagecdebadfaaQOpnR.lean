/- Texts that belong together, in one file: RhD, RgA, RhE, EntO, OpnR. No statement is proved here. -/
import Derived.Test.YtahagecdebadfaaQRhC
import Derived.Lib.SlBytesConst
import Derived.Test.YtahagecdebadfaaQEntM
import Derived.Test.YtahagecdebadfaaQRfD
import Derived.Deep.Slices
import Derived.Deep.Strs
namespace Go.Proofs.Ytahagecdebadfaa
open Go.RowKit
attribute [local go_sem ↓] Go.wp_at_zero Go.wp_at_succ

theorem ready0 : Ready (Lg.of 0 0 1 []) 0 := ⟨(newB_floor (show newB 0 0 1 = true by decide)).base, by decide +kernel, by decide, by decide, by decide, by decide⟩
set_option maxRecDepth 100000 in
set_option maxHeartbeats 4000000 in
theorem l10known_any (w : World) : Calls Try.prog 41 #[] w fun e w' => e = .returned (.bool true) ∧ Below w.heap.size w w' := by
  have Hf := Lib.hid fun W => fresh_any W
  have Htick := Lib.hid fun (p k : Nat) (W : World) (hk : k ≤ 9) (h : Ph p w.heap.size 0 (Lg.of 0 0 1 []) k W) => tick_any p w.heap.size 0 (Lg.of 0 0 1 []) k W ready0 hk h
  go_enter Try.func41, Try.ntmps41
  go_wp2_with fail
  refine (Hf.out _).mono ?_
  rintro e w1 ⟨hb1, p, hp, rfl, hph⟩
  have HPh := Lib.hid hph
  clear hph
  go_wp2_with fail
  go_loopw [2] (fun i wr => ∃ k : Nat, i = .int .i64 k ∧ k ≤ 10 ∧ Ph p w.heap.size 0 (Lg.of 0 0 1 []) k wr ∧ Sm (fun b => b < w.heap.size) w wr) (fun i _ => (10 - intOf i).toNat)
  case atStart => exact ⟨0, rfl, by omega, HPh.out, Sm.of_below' hb1 _⟩
  case round =>
    obtain ⟨k, rfl, hk, hph, hfr⟩ := hrel
    have F0 := Lib.hid hfr
    clear hfr
    have HPk := Lib.hid hph
    clear hph
    by_cases h10 : k = 10
    · subst h10
      obtain ⟨q, hqB, hal⟩ : ∃ q, w.heap.size ≤ q ∧ Alone p q 0 (0 + 1) ((Lg.of 0 0 1 []).top + 1) 1 ((Lg.of 0 0 1 []).top + 1) 10 (.int .i64 0) (.int .i64 0) (.int .i64 10) (.slice none 0 0) ((Lg.of 0 0 1 []).adds [noop (0 + 1)]) wr := by
        rcases HPk.out with ⟨h, -⟩ | ⟨-, h⟩
        · omega
        · exact h
      have hal1 : Alone p q 0 1 1 1 1 10 (.int .i64 0) (.int .i64 0) (.int .i64 10) (.slice none 0 0) ((Lg.of 0 0 1 []).adds [noop 1]) wr := hal
      obtain ⟨n1, n2, n3, n4, n5, n6⟩ := ready0.next
      have nt : ((Lg.of 0 0 1 []).adds [noop 1]).top = 1 := by decide +kernel
      have nl : ((Lg.of 0 0 1 []).adds [noop 1]).ents.length + 1 ≤ 4096 := by decide +kernel
      have na : ((Lg.of 0 0 1 []).adds [noop 1]).a = 0 := by decide +kernel
      have m5 : changeAt (((Lg.of 0 0 1 []).adds [noop 1]).adds [⟨1, 1, [97]⟩]) = 0 := by decide +kernel
      have hal2 := hal1
      obtain ⟨g1, hg1⟩ : ∃ g1, (Lg.of 0 0 1 []).adds [noop 1] = g1 := ⟨_, rfl⟩
      rw [show (0 : Int) + 1 = 1 from rfl, hg1] at n1 n2 n3 n4 n5 n6
      rw [hg1] at nt nl na m5 hal1
      clear hal2 hg1 hal n4 n5 n6
      have hok2 : okSeq g1.topTerm [⟨1, 1, [97]⟩] = true := by rw [n3]; decide
      obtain ⟨p1, p2, p3, p4, -, -⟩ := n1.adds [⟨1, 1, [97]⟩] hok2 nl
      have pm : (g1.adds [⟨1, 1, [97]⟩]).mem = 1 := by rw [n1.mem_add hok2 nl]; exact n2
      have pt : (g1.adds [⟨1, 1, [97]⟩]).top = 2 := by unfold Lg.top at nt ⊢; rw [p2, p4]; simp; omega
      have ptt : (g1.adds [⟨1, 1, [97]⟩]).topTerm = 1 := by rw [p3]; rfl
      have pl : (g1.adds [⟨1, 1, [97]⟩]).ents.length + 1 ≤ 4096 := by have := nl; rw [p2]; unfold Lg.top at nt; rw [na] at nt; simp; omega
      have pc : newCommit (g1.adds [⟨1, 1, [97]⟩]) 1 1 (Int.toNat 0) [0, 0, 0, 0, 0] = 2 := by
        rw [← pt]
        exact commit_alone p1 pm ptt (by omega)
      have hinf := rinfo_lead p q 0 1 1 1 1 10 0 (.int .i64 0) (.int .i64 10) (.slice none 0 0) g1 wr hal1 n1 (by omega) (by omega)
      rw [n2] at hinf
      have Hinf := Lib.hid hinf
      have Hal := Lib.hid hal1
      clear hal1 hinf
      go_wp2_with fail
      refine Hinf.out.mono ?_
      rintro e w2 ⟨rfl, hb2⟩
      have Hal2 := Lib.hid (Hal.out.keepM hb2)
      have F1 := Lib.hid (F0.out.trans (Sm.of_below' hb2 _))
      clear Hinf
      have kc : ∀ o : Obj, (convert 31 31 (.slice (some ⟨w2.heap.size + 1, 0, none⟩) 1 1)).run Try.prog ((w2.alloc o).alloc (.cells #[.int .u8 97] 5)) = .ok (.slice (some ⟨w2.heap.size + 1, 0, none⟩) 1 1) ((w2.alloc o).alloc (.cells #[.int .u8 97] 5 (1, 2))) := fun o => by
        have := Lib.run_convert_bytes_const (P := Try.prog) (w2.alloc o) 31 5 #[.int .u8 97] 1 1 Try.underlying31 Try.underlying5
        simpa using this
      go_wp2_with fail
      obtain ⟨W3, hW3⟩ : ∃ W3, (w2.alloc (.cells #[.int .i64 1, .int .i64 0, .int .i64 3, .int .i64 0, .int .i64 1, .int .i64 1, .int .i64 (bestGo [1, 0, 0, 0, 0] 1 5)] 85)).alloc (.cells #[.int .u8 97] 5 (1, 2)) = W3 := ⟨_, rfl⟩
      have hb3 : Below w2.heap.size w2 W3 := by rw [← hW3]; exact below_alloc (box_below w2 _) _
      have hi3 : W3.heap[w2.heap.size]? = some (.cells #[.int .i64 1, .int .i64 0, .int .i64 3, .int .i64 0, .int .i64 1, .int .i64 1, .int .i64 (bestGo [1, 0, 0, 0, 0] 1 5)] 85 (0, 0)) := by rw [← hW3]; exact blk_alloc (blk_new w2 _) _
      have hc3 : W3.cell? ⟨w2.heap.size + 1, 0, none⟩ = some (.int .u8 97) := by
        have hbk : W3.heap[w2.heap.size + 1]? = some (.cells #[.int .u8 97] 5 (1, 2)) := by
          rw [← hW3]
          have := blk_new (w2.alloc (.cells #[.int .i64 1, .int .i64 0, .int .i64 3, .int .i64 0, .int .i64 1, .int .i64 1, .int .i64 (bestGo [1, 0, 0, 0, 0] 1 5)] 85)) (.cells #[.int .u8 97] 5 (1, 2))
          rw [World.size_alloc] at this
          exact this
        unfold World.cell?
        rw [show (Addr.mk (w2.heap.size + 1) 0 none).block = w2.heap.size + 1 from rfl, hbk]
        rfl
      have hl3 : w2.heap.size + 1 < W3.heap.size := block_lt hc3
      obtain ⟨_, -, -, hpq', -, -⟩ : ∃ lv, p ≠ q ∧ True ∧ p < w2.heap.size ∧ q < w2.heap.size ∧ True := by
        obtain ⟨lv, a1, a2, a3, a4⟩ := Hal2.out
        exact ⟨lv, a1, trivial, (Array.getElem?_eq_some_iff.1 a2).1, (Array.getElem?_eq_some_iff.1 a3).1, trivial⟩
      have hqlt : q < w2.heap.size := by
        obtain ⟨lv, a1, a2, a3, a4⟩ := Hal2.out
        exact (Array.getElem?_eq_some_iff.1 a3).1
      have hv3 : Bytes (fun b => ¬ b = p ∧ ¬ b = q) W3 (.slice (some ⟨w2.heap.size + 1, 0, none⟩) 1 1) [97] :=
        ⟨rfl, .inr ⟨_, _, _, rfl, by decide, by decide, ⟨by omega, by omega⟩, hl3, fun i u hu => by
          cases i with
          | zero => simp [byteCells] at hu; subst hu; exact hc3
          | succ i => simp [byteCells] at hu⟩⟩
      have Hal3 := Lib.hid (Hal2.out.keepM hb3)
      have HO := Lib.hid (roffer_write p q 0 1 1 1 1 10 _ _ _ _ _ [97] _ W3 Hal3.out n1 hv3 (by decide) (by omega) (by omega) (by rw [n3]; omega) nl (by omega) (by omega) (by rw [n2]; decide) (by rw [n2]; exact has_one))
      rw [nt, pc] at HO
      rw [hW3]
      clear hW3 kc hc3 hv3
      obtain ⟨A, hA⟩ : ∃ A, w2.heap.size = A := ⟨_, rfl⟩
      rw [hA] at hi3 HO hpq' hqlt ⊢
      clear hA
      refine HO.out.mono ?_
      rintro e w4 ⟨rfl, hal4, hs4⟩
      have F2 := Lib.hid ((F1.out.trans (Sm.of_below' hb3 _)).trans (hs4.mono (fun b hb => ⟨by omega, by omega⟩)))
      have hi4 := (hs4.block A (show ¬ A = p ∧ ¬ A = q by omega) (Array.getElem?_eq_some_iff.1 hi3).1).trans hi3
      obtain ⟨g2, hg2⟩ : ∃ g2, g1.adds [⟨1, 1, [97]⟩] = g2 := ⟨_, rfl⟩
      rw [hg2] at p1 p4 pm pt ptt pl m5 hal4
      rw [na] at p4
      clear hg2 p2 p3 pc hok2 HO Hal3 Hal2 Hal hb3 hl3 n1 n2 n3 nt nl na
      have hinf2 := rinfo_lead p q 0 1 2 1 1 10 0 (.int .i64 0) (.int .i64 10) (.slice none 0 0) g2 w4 hal4 p1 (by omega) (by omega)
      rw [pm] at hinf2
      have Hinf2 := Lib.hid hinf2
      have Hal4 := Lib.hid hal4
      have P4 := Lib.hid p4
      have Pm := Lib.hid pm
      have Pt := Lib.hid pt
      have Ptt := Lib.hid ptt
      have M5 := Lib.hid m5
      clear hal4 hinf2 p4 pm pt ptt m5
      go_wp2_with fail
      refine Hinf2.out.mono ?_
      rintro e w5 ⟨rfl, hb5⟩
      have Hal5 := Lib.hid (Hal4.out.keepM hb5)
      have F3 := Lib.hid (F2.out.trans (Sm.of_below' hb5 _))
      have hi5 := blk_keep hb5 hi4
      clear Hinf2 hi4 hi3
      go_wp2_with fail
      obtain ⟨W6, hW6⟩ : ∃ W6, (w5.alloc (.cells #[.int .i64 1, .int .i64 0, .int .i64 3, .int .i64 0, .int .i64 2, .int .i64 1, .int .i64 (bestGo [1, 0, 0, 0, 0] 1 5)] 85)).alloc (.cells #[.int .u8 3] 5) = W6 := ⟨_, rfl⟩
      have hb6 : Below w5.heap.size w5 W6 := by rw [← hW6]; exact below_alloc (box_below w5 _) _
      have hi6 := blk_keep hb6 hi5
      have hj6 : W6.heap[w5.heap.size]? = some (.cells #[.int .i64 1, .int .i64 0, .int .i64 3, .int .i64 0, .int .i64 2, .int .i64 1, .int .i64 (bestGo [1, 0, 0, 0, 0] 1 5)] 85 (0, 0)) := by rw [← hW6]; exact blk_alloc (blk_new w5 _) _
      have hbk : W6.heap[w5.heap.size + 1]? = some (.cells #[.int .u8 3] 5 (0, 0)) := by
        rw [← hW6]
        have := blk_new (w5.alloc (.cells #[.int .i64 1, .int .i64 0, .int .i64 3, .int .i64 0, .int .i64 2, .int .i64 1, .int .i64 (bestGo [1, 0, 0, 0, 0] 1 5)] 85)) (.cells #[.int .u8 3] 5)
        rw [World.size_alloc] at this
        exact this
      have hsz5 := hb5.size
      have hsz4 := (Array.getElem?_eq_some_iff.1 hi5).1
      have hv6 : Bytes (fun b => ¬ b = p ∧ ¬ b = q) W6 (.slice (some ⟨w5.heap.size + 1, 0, none⟩) 1 1) [3] := RowAt.of_blk (cs := [.int .u8 3]) hbk ⟨by omega, by omega⟩ rfl (by decide)
      have HO2 := Lib.hid (roffer_two p q 1 2 1 1 10 _ _ _ _ _ g2 W6 (Hal5.out.keepM hb6) p1 hv6 (by omega) (by omega) (by rw [Ptt.out]; omega) pl Pm.out (by rw [M5.out]; omega) (by have := p1.topTerm; rw [Pt.out, Ptt.out] at this; exact this) (by rw [P4.out]; omega) (by omega))
      have hok3 : okSeq g2.topTerm [⟨2, 1, [3]⟩] = true := by rw [Ptt.out]; decide
      obtain ⟨r1, r2, r3, r4, -, -⟩ := p1.adds [⟨2, 1, [3]⟩] hok3 pl
      have rm : (g2.adds [⟨2, 1, [3]⟩]).mem = 3 := by rw [p1.mem_add hok3 pl]; rfl
      have rc : newCommit (g2.adds [⟨2, 1, [3]⟩]) 1 2 0 [0, 0, 0, 0, 0] = 2 := commit_two r1 rm (by omega)
      rw [Pt.out, rc] at HO2
      obtain ⟨g3, hg3⟩ : ∃ g3, g2.adds [⟨2, 1, [3]⟩] = g3 := ⟨_, rfl⟩
      rw [hg3] at r1 rm HO2
      rw [hW6]
      clear hW6 hv6 hbk r2 r3 r4 rc hok3 hg3 hi5
      obtain ⟨A2, hA2⟩ : ∃ A2, w5.heap.size = A2 := ⟨_, rfl⟩
      rw [hA2] at hj6 HO2 hsz5 hsz4 ⊢
      clear hA2
      refine HO2.out.mono ?_
      rintro e w7 ⟨⟨pv, rfl⟩, hal7, hs7⟩
      have F4 := Lib.hid ((F3.out.trans (Sm.of_below' hb6 _)).trans (hs7.mono (fun b hb => ⟨by omega, by omega⟩)))
      have hi7 := (hs7.block A (show ¬ A = p ∧ ¬ A = q by omega) (Array.getElem?_eq_some_iff.1 hi6).1).trans hi6
      have hj7 := (hs7.block A2 (show ¬ A2 = p ∧ ¬ A2 = q by omega) (Array.getElem?_eq_some_iff.1 hj6).1).trans hj6
      have hinf3 := rinfo_lead p q 0 1 2 1 1 10 0 (.int .i64 0) (.int .i64 10) (.slice none 0 0) g3 w7 hal7 r1 (by omega) (by omega)
      rw [rm] at hinf3
      have Hinf3 := Lib.hid hinf3
      clear hal7 hinf3 HO2 rm r1 hi6 hj6 hs7
      go_wp2_with fail
      refine Hinf3.out.mono ?_
      rintro e w8 ⟨rfl, hb8⟩
      have hi8 := blk_keep hb8 hi7
      have hj8 := blk_keep hb8 hj7
      clear hi7 hj7 Hinf3
      have i0 := fun o => (cells7 (blk_alloc hi8 o)).1.1
      have i2 := fun o => (cells7 (blk_alloc hi8 o)).1.2.2.1
      have i4 := fun o => (cells7 (blk_alloc hi8 o)).1.2.2.2.2.1
      have j4 := fun o => (cells7 (blk_alloc hj8 o)).1.2.2.2.2.1
      clear hi8 hj8
      go_wp2_with fail
      go_ret
      exact ⟨rfl, (((F4.out.trans (Sm.of_below' hb8 _)).alloc _)).below_lt⟩
    · have hk9 : k ≤ 9 := by omega
      have hk10 : (k : Int) < 10 := by omega
      go_wp2_with fail
      refine (Htick.out p k wr hk9 HPk.out).mono ?_
      rintro e w2 ⟨rfl, hph2, hsm2⟩
      have F1 := Lib.hid (F0.out.trans (hsm2.mono (fun b hb => by omega)))
      have HP2 := Lib.hid hph2
      clear hph2
      go_wp2_with fail
      exact ⟨⟨k + 1, by simp, by omega, HP2.out, F1.out⟩, by simp only [intOf]; omega⟩
end Go.Proofs.Ytahagecdebadfaa

namespace Go.Proofs.Ytahagecdebadfaa
open Go.RowKit

set_option maxHeartbeats 1000000 in
theorem at_any {S : Nat → Prop} (p : Value) (g : Lg) (n : Int) (x : Ent) (w : World) (h : LogAt S w p g.parts) (hg : g.Good) (h1 : g.a < n) (h2 : n ≤ g.top) (hx : g.ents[(n - g.a - 1).toNat]? = some x) (h47 : x.cmd.length ≤ 140737488355328) :
    Calls Try.prog 24 #[p, .int .i64 n] w fun e w' => ∃ cv, e = .returned (.tuple #[.agg #[.int .i64 x.kind, .int .i64 x.term, cv], .bool true]) ∧ Bytes (w.heap.size ≤ ·) w' cv x.cmd ∧ Below w.heap.size w w' := by
  have h' := h.keep (box_below w (.cells #[.int .i64 0, .int .i64 0, .slice none 0 0] 33))
  have Hf := Lib.hid (find_lg p g n _ h' hg)
  have Hno := Lib.hid fun hno => hg.noPart (n := n) hno
  go_enter Try.func24, Try.ntmps24
  go_wp2_with fail
  refine Hf.out.mono ?_
  rintro e w1 ⟨hp, hb0⟩
  have hb := below_then (box_below w _) hb0
  rcases hp with ⟨i, hi, v, hh, hno, hv, rfl⟩ | ⟨hno, rfl⟩
  · rcases hg.part hi hh with ⟨rfl, rfl⟩ | ⟨j, hj, rfl, -, -, h3, h4, -, he⟩
    · omega
    · rw [g.parts_succ j hj] at hv
      obtain ⟨k1, k2, k3, k4⟩ := hg.run_ok j hj
      obtain ⟨sv, rfl, cs, hrl, hec⟩ := hv
      obtain ⟨rb, ro, rc, rfl, hrn, hrc, _, _, hrcell⟩ := hrl.form k3
      generalize g.rs[j].1 = f at *
      generalize g.rs[j].2 = L at *
      obtain ⟨d, hd⟩ : ∃ d : Nat, n - f = d := ⟨(n - f).toNat, by omega⟩
      have hdl : d < L.length := by omega
      rw [hx, show (n - f).toNat = d by omega, List.getElem?_eq_getElem hdl] at he
      obtain ⟨cv, hc0, hc1, hc2, hi1, hi2, hbs⟩ := hec.at d hdl
      have hLx : L[d] = x := (Option.some.inj he).symm
      rw [hLx] at hc0 hc1 hbs
      have d0 := fun o' => cell_keep (box_below w1 o') (cell_keep hb0 (hrcell _ _ hc0))
      have d1 := fun o' => cell_keep (box_below w1 o') (cell_keep hb0 (hrcell _ _ hc1))
      have d2 := fun o' => cell_keep (box_below w1 o') (cell_keep hb0 (hrcell _ _ hc2))
      rw [← Nat.add_assoc] at d1 d2
      have hwr : IntKind.i64.wrap (n - f) = (d : Int) := by rw [hd]; exact IntWalk.i64_in _ (by omega)
      have hdl2 : (d : Int) < (L.length : Int) := by omega
      have HO := Lib.hid fun W (hW : Below (w.alloc (.cells #[.int .i64 0, .int .i64 0, .slice none 0 0] 33)).heap.size (w.alloc (.cells #[.int .i64 0, .int .i64 0, .slice none 0 0] 33)) W) => own_any W x.kind x.term cv x.cmd (hbs.keep hW) h47
      clear hno hc0 hc1 hc2 hrcell hec hrl he hLx hi1 hi2 hbs
      go_wp2_with fail
      refine (HO.out _ (by exact below_alloc hb0 _)).mono ?_
      rintro e w2 ⟨v', rfl, hbt, hb2⟩
      obtain ⟨q0, q1, q2, g0, g1, g2⟩ := cells3 (blk_keep hb2 (blk_alloc (blk_keep hb0 (blk_new w _)) _))
      clear d0 d1 d2
      obtain ⟨A', c', rfl⟩ := hbt.slice
      have hsz := hb.size
      go_wp2_with fail
      refine bodyPost_ret (v := .tuple #[.agg #[.int .i64 x.kind, .int .i64 x.term, .slice A' x.cmd.length c'], .bool true]) (by simp [results, Try.results24, go_sem, q0, q1, q2]) rfl ⟨_, rfl, ?_, ?_⟩
      · refine ((Bytes.keepS hbt ?_).mono fun b _ h => ?_)
        · exact (((Same.refl _ _).setCell (by simp; omega) _).setCell (by simp; omega) _).setCell (by simp; omega) _
        · simp at h; omega
      · exact (((below_then (below_alloc hb _) hb2).setCell (by simp) _).setCell (by simp) _).setCell (by simp) _
  · have := Hno.out fun j hj => hno j hj hj
    omega
end Go.Proofs.Ytahagecdebadfaa

namespace Go.Proofs.Ytahagecdebadfaa
open Go.RowKit
attribute [local go_sem ↓] Go.wp_at_zero Go.wp_at_succ

/-- Rows of bytes. -/
def Rows2 (S : Nat → Prop) (w : World) (v : Value) (xss : List (List UInt8)) : Prop :=
  ∃ cs, RowAt S w v xss.length 1 cs ∧ ∀ i (h : i < xss.length), ∃ u, cs[i]? = some u ∧ Bytes S w u xss[i]
structure Lead1 (g : Lg) (t : Int) : Prop where
  good : g.Good
  one : g.mem = 1
  tt : g.topTerm = t
  a0 : g.a = 0
theorem Lead1.next {g : Lg} {t : Int} {xs : List UInt8} (h : Lead1 g t) (h1 : 1 ≤ t) (h2 : t ≤ 1099511627776) (hx : xs.length ≤ 4080) (hl : g.ents.length + 1 ≤ 4096) :
    Lead1 (g.adds [⟨1, t, xs⟩]) t ∧ (g.adds [⟨1, t, xs⟩]).top = g.top + 1 ∧ (g.adds [⟨1, t, xs⟩]).ents = g.ents ++ [⟨1, t, xs⟩] ∧ newCommit (g.adds [⟨1, t, xs⟩]) t g.top 0 [0, 0, 0, 0, 0] = g.top + 1 := by
  have hok : okSeq g.topTerm [⟨1, t, xs⟩] = true := by rw [h.tt]; simp [okSeq, rightB, mayB]; omega
  obtain ⟨r1, r2, r3, r4, -, -⟩ := h.good.adds [⟨1, t, xs⟩] hok (by simpa using hl)
  have rm : (g.adds [⟨1, t, xs⟩]).mem = 1 := by rw [h.good.mem_add hok hl]; exact h.one
  have rt : (g.adds [⟨1, t, xs⟩]).top = g.top + 1 := by unfold Lg.top; rw [r2, r4]; simp; omega
  refine ⟨⟨r1, rm, by rw [r3]; rfl, by rw [r4]; exact h.a0⟩, rt, r2, ?_⟩
  rw [← rt]
  exact commit_alone r1 rm (by rw [r3]; rfl) (by omega)
theorem field_info4 (a b c d e f g : Int) (w : World) : (Instr.field 85 (.agg #[.int .i64 a, .int .i64 b, .int .i64 c, .int .i64 d, .int .i64 e, .int .i64 f, .int .i64 g]) 4).run Try.prog w = .ok (.int .i64 e) w := by kernel_rfl
theorem field_info6 (a b c d e f g : Int) (w : World) : (Instr.field 85 (.agg #[.int .i64 a, .int .i64 b, .int .i64 c, .int .i64 d, .int .i64 e, .int .i64 f, .int .i64 g]) 6).run Try.prog w = .ok (.int .i64 g) w := by kernel_rfl
attribute [local go_sem] field_info4 field_info6
theorem rlog_any (p : Nat) (x0 x1 x2 x3 x4 x5 x6 x7 x8 x9 x10 x11 x12 : Value) (w : World) (h : w.heap[p]? = some (.cells #[x0, x1, x2, x3, x4, x5, x6, x7, x8, x9, x10, x11, x12] 161 (0, 0))) :
    Calls Try.prog 46 #[.pointer (some ⟨p, 0, none⟩)] w fun e w' => e = .returned x4 ∧ w' = w := by
  obtain ⟨⟨c0, c1, c2, c3, c4, c5, c6, c7, c8, c9, c10, c11, c12⟩, cf⟩ := cells13 h
  go_enter Try.func46, Try.ntmps46
  go_wp2_with fail
  go_ret
  exact ⟨rfl, rfl⟩
set_option maxRecDepth 100000 in
set_option maxHeartbeats 4000000 in
theorem raftAlone_any {S : Nat → Prop} (lv cv : Value) (l : List Ent) (term : Int) (xss : List (List UInt8)) (w : World) (hl : Ents S w lv l) (hll : l.length ≤ 140737488355328) (hc : Rows2 S w cv xss) (hSw : ∀ b, S b → b < w.heap.size) :
    Calls Try.prog 11 #[lv, .int .i64 term, cv] w fun e w' => e = .returned (.bool true) ∧ Below w.heap.size w w' := by
  have HK := Lib.hid fun W => l10known_any W
  have Hlog := Lib.hid (l10log_any lv l w hl hll)
  obtain ⟨A, lc, rfl⟩ := hl.slice
  go_enter Try.func11, Try.ntmps11
  go_wp2_with fail
  refine Hlog.out.mono ?_
  rintro e w1 ⟨hb1, ⟨hok, hl4, pg, y, rfl, hp⟩ | ⟨-, rfl⟩⟩
  · obtain ⟨qb, qs, qv, rfl, -⟩ := id hp
    obtain ⟨hgood, hents, -, hGa, hGt, hGm⟩ := (newB_floor (show newB 0 0 1 = true by decide)).of hok hl4
    have HL1 := Lib.hid (hp.mono (T := fun b => b < w1.heap.size) (fun b hb _ => hb))
    clear hp Hlog
    generalize hG : Lg.of 0 0 1 l = G at *
    have Hgood := Lib.hid hgood
    have Hents := Lib.hid hents
    have HGa := Lib.hid hGa
    clear hG hents hGa hGt hGm
    by_cases h50 : 50 < l.length
    · have h50' : (50 : Int) < (l.length : Int) := by omega
      go_wp2_with fail
      refine (HK.out _).mono ?_
      rintro e w2 ⟨rfl, hb2⟩
      go_wp2_with fail
      go_ret
      exact ⟨rfl, below_then hb1 hb2⟩
    · have h50' : (l.length : Int) ≤ 50 := by omega
      have htop : G.top = l.length := by unfold Lg.top; rw [Hents.out, HGa.out]; omega
      have HM := Lib.hid (members_any (.pointer (some ⟨qb, 0, none⟩)) G (l.length : Int) ⟨by omega, by omega⟩ w1 HL1.out hgood)
      go_wp2_with fail
      refine HM.out.mono ?_
      rintro e w2 ⟨rfl, hb2⟩
      have hb12 := below_then hb1 hb2
      by_cases hone : G.memAt l.length = 1
      · have hmem : G.mem = 1 := by have := hgood.mem.1; rw [htop, hone] at this; omega
        have Hmem := Lib.hid hmem
        rw [hone]
        have HN := Lib.hid (rnew_any (S := fun b => b < w1.heap.size) term (.pointer (some ⟨qb, 0, none⟩)) G w2 (HL1.out.keep hb2) hgood HGa.out)
        clear hmem HM
        go_wp2_with fail
        refine HN.out.mono ?_
        rintro e w3 ⟨hb3, ⟨hmay, htt, p, hp, rfl, hp3⟩ | ⟨hno, rfl⟩⟩
        · have hb23 := below_then hb12 hb3
          have ht0 : 0 ≤ term ∧ term ≤ 1099511627776 := by simp [mayB] at hmay; omega
          have HL3 := Lib.hid (HL1.out.keep (below_then hb2 hb3))
          have Hp3 := Lib.hid hp3
          clear hp3 hmay HN
          by_cases hmax : 1099511627776 ≤ term
          · go_wp2_with fail
            refine (HK.out _).mono ?_
            rintro e w4 ⟨rfl, hb4⟩
            go_wp2_with fail
            go_ret
            exact ⟨rfl, below_then hb23 hb4⟩
          · have hmax2 : term < 1099511627776 := by omega
            have hsz1 := hb1.size
            have hsz2 := hb2.size
            have hrd : Ready G term := ⟨hgood, Hmem.out, ht0.1, hmax2, htt, by rw [Hents.out]; omega⟩
            have hwp : w.heap.size ≤ p := by omega
            have HPh := Lib.hid (show Ph p w.heap.size term G 0 w3 from .inl ⟨by omega, hb23.size, _, Hp3.out, HL3.out.mono (fun b _ hs => by omega)⟩)
            have Htick := Lib.hid fun (k : Nat) (W : World) (hk : k ≤ 9) (h : Ph p w.heap.size term G k W) => tick_any p w.heap.size term G k W hrd hk h
            have Hrd := Lib.hid hrd
            clear Hp3 HL3 HL1 hrd hsz1 hsz2
            go_wp2_with fail
            go_loopw [11] (fun i wr => ∃ k : Nat, i = .int .i64 k ∧ k ≤ 10 ∧ Ph p w.heap.size term G k wr ∧ Sm (fun b => b < w.heap.size) w wr) (fun i _ => (10 - intOf i).toNat)
            case atStart => exact ⟨0, rfl, by omega, HPh.out, Sm.of_below' hb23 _⟩
            case round =>
              obtain ⟨k, rfl, hk, hph, hfr⟩ := hrel
              have F0 := Lib.hid hfr
              have HPk := Lib.hid hph
              clear hph hfr
              by_cases h10 : k = 10
              · subst h10
                obtain ⟨q, hqB, hal⟩ : ∃ q, w.heap.size ≤ q ∧ Alone p q 0 (term + 1) (G.top + 1) 1 (G.top + 1) 10 (.int .i64 0) (.int .i64 0) (.int .i64 10) (.slice none 0 0) (G.adds [noop (term + 1)]) wr := by
                  rcases HPk.out with ⟨h, -⟩ | ⟨-, h⟩
                  · omega
                  · exact h
                obtain ⟨n1, n2, n3, n4, n5, n6⟩ := Hrd.out.next
                obtain ⟨g1, hg1⟩ : ∃ g1, G.adds [noop (term + 1)] = g1 := ⟨_, rfl⟩
                rw [hg1] at n1 n2 n3 n4 n5 n6 hal
                have hinf := rinfo_lead p q 0 (term + 1) (G.top + 1) 1 (G.top + 1) 10 0 _ _ _ g1 wr hal n1 (by omega) (by omega)
                rw [n2, show (([0, 0, 0, 0, 0] : List Int).set (Int.toNat 0) 1) = [1, 0, 0, 0, 0] from rfl, best_alone (by omega : (0 : Int) ≤ 1)] at hinf
                rw [htop] at hinf hal n4
                have nl : g1.ents.length = l.length + 1 := by rw [n5, Hents.out]; simp
                have na : g1.a = 0 := by rw [n6]; exact HGa.out
                have Hinf := Lib.hid hinf
                have Hal := Lib.hid hal
                clear hal hinf hg1 n5 n6
                go_wp2_with fail
                refine Hinf.out.mono ?_
                rintro e w4 ⟨rfl, hb4⟩
                have Hal4 := Lib.hid (Hal.out.keepM hb4)
                have F1 := Lib.hid (F0.out.trans (Sm.of_below' hb4 _))
                clear Hinf Hal F0
                go_wp2_with fail
                have HL0 := Lib.hid (show Lead1 g1 (term + 1) from ⟨n1, n2, n3, na⟩)
                have Hc := Lib.hid hc
                have Hl1 := Lib.hid nl
                have Ht1 := Lib.hid n4
                have hqlt : p ≠ q := by obtain ⟨lv, a1, -⟩ := Hal4.out; exact a1
                rw [← n4] at Hal4
                clear HPk HPh Htick Hrd Hmem hone Hents HGa Hgood hgood htop hok hc n1 n2 n3 n4 na nl hb4 hb12 hb23 hb1 hb2 hb3 hl
                go_loopw [13] (fun i wr => ∃ (k : Nat) (gk : Lg) (rd qu : Int), i = .int .i64 k ∧ k ≤ 50 ∧ Lead1 gk (term + 1) ∧ 1 ≤ rd ∧ rd ≤ k + 1 ∧ 0 ≤ qu ∧ qu ≤ k + 10 ∧ gk.ents.length ≤ l.length + 1 + k ∧
                  Alone p q 0 (term + 1) gk.top rd g1.top qu (.int .i64 0) (.int .i64 0) (.int .i64 10) (.slice none 0 0) gk wr ∧ Sm (fun b => b < w.heap.size) w wr) (fun i _ => (50 - intOf i).toNat)
                case atStart => exact ⟨0, g1, 1, 10, rfl, by omega, HL0.out, by omega, by omega, by omega, by omega, by rw [Hl1.out]; omega, Hal4.out.keepM (box_below _ _), F1.out.alloc _⟩
                case round =>
                  obtain ⟨k, gk, rd, qu, rfl, hk, hlead, hrd1, hrd2, hqu1, hqu2, hlen, hal, hfr⟩ := hrel
                  have F2 := Lib.hid hfr
                  have Hal := Lib.hid hal
                  have Hlead := Lib.hid hlead
                  clear hfr hal hlead HL0 Hal4 F1 Ht1 Hl1
                  by_cases hend : k < xss.length ∧ k < 50
                  · obtain ⟨hk1, hk2⟩ := hend
                    obtain ⟨cs, hrow, hel⟩ := Hc.out
                    obtain ⟨rb, ro, rc, rfl, hrn, hrc, -, hrb, hrcell⟩ := hrow.form (by omega)
                    obtain ⟨u, hu, hbu⟩ := hel k hk1
                    have hcw : w.cell? ⟨rb, ro + k, none⟩ = some u := hrcell k u hu
                    have hcu : wr.cell? ⟨rb, ro + k, none⟩ = some u := F2.out.cell (p := ⟨rb, ro + k, none⟩) hrb hcw
                    have Hbu := Lib.hid (Bytes.keepM hbu (F2.out.mono (fun b hb => hSw b hb)))
                    obtain ⟨cA, cc, rfl⟩ := hbu.slice
                    have Hbw := Lib.hid hbu
                    have Hcw := Lib.hid hcw
                    clear hcw
                    have hk1' : (k : Int) < (xss.length : Int) := by omega
                    have hk2' : (k : Int) < 50 := by omega
                    have hrn' : (xss.length : Int) ≤ (rc : Int) := by omega
                    generalize xss[k] = xs at *
                    clear hu hel hrcell hrow hbu
                    by_cases h4000 : 4000 < xs.length
                    · have h4000' : (4000 : Int) < (xs.length : Int) := by omega
                      go_wp2_with fail
                      exact ⟨⟨k + 1, gk, rd, qu, by simp, by omega, Hlead.out, hrd1, by omega, hqu1, by omega, by omega, Hal.out, F2.out⟩, by simp only [intOf]; omega⟩
                    · have h4000' : (xs.length : Int) ≤ (4000 : Int) := by omega
                      have HO := Lib.hid (roffer_write p q 0 (term + 1) gk.top rd g1.top qu _ _ _ _ (.slice cA xs.length cc) xs gk wr Hal.out Hlead.out.good (Bytes.mono Hbu.out (fun b _ hs => by have := hSw b hs; exact ⟨by omega, by omega⟩)) (by omega) (by omega) (by omega) (by rw [Hlead.out.tt]; omega) (by omega) (by omega) (by omega) (by rw [Hlead.out.one]; decide) (by rw [Hlead.out.one]; exact has_one))
                      go_wp2_with fail
                      refine HO.out.mono ?_
                      rintro e w5 ⟨rfl, hal5, hs5⟩
                      obtain ⟨ld2, tp2, en2, nc2⟩ := Hlead.out.next (xs := xs) (by omega) (by omega) (by omega) (by omega)
                      rw [show (Int.toNat 0) = 0 from rfl, nc2] at hal5
                      have hlt0 := Hlead.out.good.topR
                      obtain ⟨g2, hg2⟩ : ∃ g2, gk.adds [⟨1, term + 1, xs⟩] = g2 := ⟨_, rfl⟩
                      rw [hg2] at ld2 tp2 en2 hal5
                      obtain ⟨tk, htk⟩ : ∃ tk, gk.top = tk := ⟨_, rfl⟩
                      have hen : g2.ents[(tk + 1 - g2.a - 1).toNat]? = some ⟨1, term + 1, xs⟩ := by
                        rw [en2, ld2.a0, ← htk]
                        unfold Lg.top
                        rw [Hlead.out.a0]
                        have : (0 + (gk.ents.length : Int) + 1 - 0 - 1).toNat = gk.ents.length := by omega
                        rw [this]; simp
                      have hln : g2.ents.length = gk.ents.length + 1 := by rw [en2]; simp
                      rw [htk] at tp2 hal5 hlt0 ⊢
                      have F5 := Lib.hid (F2.out.trans (hs5.mono (fun b hb => ⟨by omega, by omega⟩)))
                      have Hal5 := Lib.hid hal5
                      have Hld := Lib.hid ld2
                      have Htp := Lib.hid tp2
                      have Hen := Lib.hid hen
                      have Hln := Lib.hid hln
                      clear hg2 htk nc2 en2 ld2 tp2 hen hln hs5 HO Hal
                      obtain ⟨lv5, -, hp5, -, hL5⟩ := hal5
                      have HLg := Lib.hid (rlog_any p _ _ _ _ _ _ _ _ _ _ _ _ _ w5 hp5)
                      have hpb := hL5
                      obtain ⟨lb, ls, lvs, rfl, -⟩ := hpb
                      have HL5 := Lib.hid hL5
                      clear hp5 hL5
                      have hcu5 := F5.out.cell (p := ⟨rb, ro + k, none⟩) hrb (show w.cell? ⟨rb, ro + k, none⟩ = some (.slice cA xs.length cc) from Hcw.out)
                      have hinf5 := rinfo_lead p q 0 (term + 1) (tk + 1) rd g1.top qu 0 (.int .i64 0) (.int .i64 10) (.slice none 0 0) g2 w5 Hal5.out Hld.out.good (by omega) (by omega)
                      rw [Hld.out.one, show (([0, 0, 0, 0, 0] : List Int).set (Int.toNat 0) rd) = [rd, 0, 0, 0, 0] from rfl, best_alone (by omega : (0 : Int) ≤ rd)] at hinf5
                      have Hinf5 := Lib.hid hinf5
                      clear hinf5 hcu
                      go_wp2_with fail
                      refine HLg.out.mono ?_
                      rintro e w6 ⟨rfl, hw6⟩
                      subst hw6
                      go_wp2_with fail
                      refine Hinf5.out.mono ?_
                      rintro e w7 ⟨rfl, hb7⟩
                      have Hal7 := Lib.hid (Hal5.out.keepM hb7)
                      have F7 := Lib.hid (F5.out.trans (Sm.of_below' hb7 _))
                      have HL7 := Lib.hid (HL5.out.keep hb7)
                      have HAt := Lib.hid (at_any (.pointer (some ⟨lb, 0, none⟩)) g2 (tk + 1) ⟨1, term + 1, xs⟩ w7 HL7.out Hld.out.good (by rw [Hld.out.a0]; omega) (by rw [Htp.out]; omega) Hen.out (by show xs.length ≤ 140737488355328; omega))
                      clear hcu5 Hinf5 HLg
                      go_wp2_with fail
                      refine HAt.out.mono ?_
                      rintro e w8 ⟨xv, rfl, hxb, hb8⟩
                      obtain ⟨xA, xc, rfl⟩ := hxb.slice
                      have Hxb := Lib.hid hxb
                      have Hal8 := Lib.hid (Hal7.out.keepM hb8)
                      have F8 := Lib.hid (F7.out.trans (Sm.of_below' hb8 _))
                      have Hb8 := Lib.hid (Bytes.keepM Hbw.out (F8.out.mono (fun b hb => hSw b hb)))
                      have hcu8 := F8.out.cell (p := ⟨rb, ro + k, none⟩) hrb (show w.cell? ⟨rb, ro + k, none⟩ = some (.slice cA xs.length cc) from Hcw.out)
                      clear hxb HAt HL7 HL5 Hal7 Hal5
                      go_wp2_with fail
                      obtain ⟨W9, hW9⟩ : ∃ W9, w8.alloc (.cells #[.int .i64 1, .int .i64 (term + 1), .slice xA xs.length xc] 33) = W9 := ⟨_, rfl⟩
                      have hb9 : Below w8.heap.size w8 W9 := by rw [← hW9]; exact box_below w8 _
                      obtain ⟨X, hX⟩ : ∃ X, w8.heap.size = X := ⟨_, rfl⟩
                      obtain ⟨x0, x1, x2, -, -, -⟩ := cells3 (show W9.heap[X]? = some (.cells #[.int .i64 1, .int .i64 (term + 1), .slice xA xs.length xc] 33 (0, 0)) by rw [← hW9, ← hX]; exact blk_new w8 _)
                      have hcu9 := cell_keep hb9 hcu8
                      have sa : ∀ n, (convert 31 9 (.slice xA xs.length xc)).run Try.prog (W9.drewN n) = .ok (.string ⟨xs.toArray⟩) (W9.drewN n) := fun n => bytes_str (Hxb.out.keep (below_drewN hb9 n))
                      have sb : ∀ n, (convert 31 9 (.slice cA xs.length cc)).run Try.prog (W9.drewN n) = .ok (.string ⟨xs.toArray⟩) (W9.drewN n) := fun n => bytes_str (Hb8.out.keep (below_drewN hb9 n))
                      have Hal9 := Lib.hid (Hal8.out.keepM hb9)
                      have F9 := Lib.hid (F8.out.trans (Sm.of_below' hb9 _))
                      rw [hW9]
                      rw [hX]
                      clear hW9 hX hb9 hcu8 Hal8 Hb8
                      go_quiet (fail)
                      go_wp2_with fail
                      have hbq : Below W9.heap.size W9 (W9.drewN nq) := below_drewN (Below.refl _ _) nq
                      have Hal10 := Lib.hid (Hal9.out.keepM hbq)
                      have F10 := Lib.hid (F9.out.trans (Sm.of_below' hbq _))
                      have hinf10 := rinfo_lead p q 0 (term + 1) (tk + 1) rd g1.top qu 0 (.int .i64 0) (.int .i64 10) (.slice none 0 0) g2 _ Hal10.out Hld.out.good (by omega) (by omega)
                      rw [Hld.out.one, show (([0, 0, 0, 0, 0] : List Int).set (Int.toNat 0) rd) = [rd, 0, 0, 0, 0] from rfl, best_alone (by omega : (0 : Int) ≤ rd)] at hinf10
                      clear hbq sa sb x0 x1 x2 hcu9 Hal9 F9 Hxb
                      refine hinf10.mono ?_
                      rintro e w11 ⟨rfl, hb11⟩
                      have Hal11 := Lib.hid (Hal10.out.keepM hb11)
                      have F11 := Lib.hid (F10.out.trans (Sm.of_below' hb11 _))
                      clear hinf10 Hal10 F10
                      go_wp2_with fail
                      have hc2 : newCommit g2 (term + 1) (tk + 1) (Int.toNat 0) [0, 0, 0, 0, 0] = tk + 1 := by
                        rw [← Htp.out]
                        exact commit_alone Hld.out.good Hld.out.one Hld.out.tt (by omega)
                      have htick := rtick_lead p q 0 (term + 1) (tk + 1) rd g1.top qu _ _ _ _ g2 w11 Hal11.out Hld.out.good (by omega) (by omega) (by rw [Hld.out.one]; decide) (by rw [Hld.out.one]; exact has_one) (by rw [Hld.out.one]; decide +kernel) (by omega) (by omega) (by omega) (by omega)
                      rw [hc2] at htick
                      refine htick.mono ?_
                      rintro e w12 ⟨rfl, hal12, hs12⟩
                      have Hal12 := Lib.hid hal12
                      have F12 := Lib.hid (F11.out.trans (hs12.mono (fun b hb => ⟨by omega, by omega⟩)))
                      have hinf12 := rinfo_lead p q 0 (term + 1) (tk + 1) (rd + 1) g1.top (qu + 1) 0 (.int .i64 0) (.int .i64 10) (.slice none 0 0) g2 w12 hal12 Hld.out.good (by omega) (by omega)
                      rw [Hld.out.one, show (([0, 0, 0, 0, 0] : List Int).set (Int.toNat 0) (rd + 1)) = [rd + 1, 0, 0, 0, 0] from rfl, best_alone (by omega : (0 : Int) ≤ rd + 1)] at hinf12
                      have Hinf12 := Lib.hid hinf12
                      clear hal12 hs12 htick hc2 hinf12 Hal11 F11
                      go_wp2_with fail
                      refine Hinf12.out.mono ?_
                      rintro e w13 ⟨rfl, hb13⟩
                      have Hal13 := Lib.hid (Hal12.out.keepM hb13)
                      have F13 := Lib.hid (F12.out.trans (Sm.of_below' hb13 _))
                      clear Hinf12 Hal12 F12
                      go_wp2_with fail
                      refine ⟨⟨k + 1, g2, rd + 1, qu + 1, by simp, by omega, Hld.out, by omega, by omega, by omega, by omega, by rw [Hln.out]; omega, ?_, F13.out⟩, by simp only [intOf]; omega⟩
                      rw [Htp.out]
                      exact Hal13.out
                  · obtain ⟨cs, hrow, -⟩ := Hc.out
                    obtain ⟨cA, cc, rfl⟩ := hrow.slice
                    have hor : xss.length ≤ k ∨ (k < xss.length ∧ k = 50) := by omega
                    rcases hor with h1 | ⟨h1, rfl⟩
                    · have h1' : (xss.length : Int) ≤ (k : Int) := by omega
                      go_wp2_with fail
                      refine (HK.out _).mono ?_
                      rintro e w5 ⟨rfl, hb5⟩
                      go_wp2_with fail
                      go_ret
                      exact ⟨rfl, (F2.out.trans (Sm.of_below' hb5 _)).below_lt⟩
                    · have h1' : (50 : Int) < (xss.length : Int) := by omega
                      go_wp2_with fail
                      refine (HK.out _).mono ?_
                      rintro e w5 ⟨rfl, hb5⟩
                      go_wp2_with fail
                      go_ret
                      exact ⟨rfl, (F2.out.trans (Sm.of_below' hb5 _)).below_lt⟩
              · have hk9 : k ≤ 9 := by omega
                have hk10 : (k : Int) < 10 := by omega
                go_wp2_with fail
                refine (Htick.out k wr hk9 HPk.out).mono ?_
                rintro e w4 ⟨rfl, hph2, hsm2⟩
                have F1 := Lib.hid (F0.out.trans (hsm2.mono (fun b hb => by omega)))
                have HP2 := Lib.hid hph2
                clear hph2
                go_wp2_with fail
                exact ⟨⟨k + 1, by simp, by omega, HP2.out, F1.out⟩, by simp only [intOf]; omega⟩
        · go_wp2_with fail
          refine (HK.out _).mono ?_
          rintro e w4 ⟨rfl, hb4⟩
          go_wp2_with fail
          go_ret
          exact ⟨rfl, below_then hb12 (below_then hb3 hb4)⟩
      · have hone2 : (G.memAt l.length != 1) = true := by simpa using hone
        have hone3 : (G.memAt l.length == 1) = false := by simpa using hone
        go_wp2_with fail
        refine (HK.out _).mono ?_
        rintro e w4 ⟨rfl, hb4⟩
        go_wp2_with fail
        go_ret
        exact ⟨rfl, below_then hb12 hb4⟩
  · go_wp2_with fail
    refine (HK.out _).mono ?_
    rintro e w2 ⟨rfl, hb2⟩
    go_wp2_with fail
    go_ret
    exact ⟨rfl, below_then hb1 hb2⟩
end Go.Proofs.Ytahagecdebadfaa

namespace Go.Proofs.Ytahagecdebadfaa
open Go.ChangeShapes Go.WideShapes

section
variable {H : Type} {enc : TypeId × Value → H} {W : World} {base : Nat} {spare : Nat → Bool} {held : Bool}

theorem in64_wf {n : Int} (h : (Lit.int .i64 n).wf = true) : in64 n := by
  simp [Lit.wf, IntKind.min, IntKind.max, IntKind.bits, IntKind.signed] at h
  exact ⟨by omega, by omega⟩

theorem bytes_of_ints : ∀ (zs : List Int), (∀ n ∈ zs, (Lit.int .u8 n).wf = true) → byteCells (zs.map fun n => UInt8.ofNat n.toNat) = zs.map (Value.int .u8)
  | [], _ => rfl
  | z :: zs, h => by
    have h0 := h z (by simp)
    simp [Lit.wf, IntKind.min, IntKind.max, IntKind.bits, IntKind.signed] at h0
    have ih := bytes_of_ints zs (fun n hn => h n (by simp [hn]))
    simp only [List.map_cons, byteCells] at ih ⊢
    have e : ((UInt8.ofNat z.toNat).toNat : Int) = z := by
      show ((z.toNat % 256 : Nat) : Int) = z
      omega
    rw [e, ih]

theorem open_bytes {fuel : Nat} {v : Value} {x : DataW H × List MemPlace} (h : DataW.trod enc Try.prog W base spare held fuel 31 [v] = some x) : ∃ xs : List UInt8, Bytes (fun _ => True) W v xs := by
  rcases open_ints Try.underlying31 Try.underlying5 (by kernel_rfl) h with ⟨hcs, -⟩ | ⟨a, len, cap, zs, hcs, hb, hl, hm, hz, -, hcell, hw⟩
  · simp at hcs
    subst hcs
    exact ⟨[], rfl, .inl ⟨rfl, .inl rfl⟩⟩
  · simp at hcs
    subst hcs
    have hle : len ≤ zs.length := by rw [hz]; split <;> omega
    have hb' := bytes_of_ints (zs.take len) (fun n hn => hw n (List.mem_of_mem_take hn))
    refine ⟨(zs.take len).map fun n => UInt8.ofNat n.toNat, ?_⟩
    have e : ((zs.take len).map fun n => UInt8.ofNat n.toNat).length = len := by simp; omega
    unfold Bytes
    rw [e, hb']
    refine ⟨by simp; omega, ?_⟩
    rcases Nat.eq_zero_or_pos len with rfl | hp
    · exact .inl ⟨rfl, .inr ⟨a, cap, rfl⟩⟩
    · obtain ⟨b, off, spot⟩ := a
      have hc0 := hcell 0 (by omega)
      have hspot : spot = none := by simpa [Addr.add] using World.cell?_spot hc0
      subst hspot
      refine .inr ⟨b, off, cap, rfl, hl, hm, trivial, ?_, fun i u hu => ?_⟩
      · have := block_lt hc0
        rw [add_plain] at this
        exact this
      · have hi := (List.getElem?_eq_some_iff.1 hu).1
        simp at hi
        have := hcell i (by omega)
        rw [add_plain] at this
        rw [this]
        simp only [List.getElem?_map, List.getElem?_take] at hu
        rw [if_pos (by omega), List.getElem?_eq_getElem (by omega)] at hu
        simp at hu
        rw [← hu]
        simp [List.getD, List.getElem?_eq_getElem (show i < zs.length by omega)]

theorem open_entry {fuel : Nat} {cs : List Value} {x : DataW H × List MemPlace} (h : DataW.trod enc Try.prog W base spare held fuel 33 cs = some x) :
    ∃ (e : Ent) (v : Value), cs = [.int .i64 e.kind, .int .i64 e.term, v] ∧ in64 e.kind ∧ in64 e.term ∧ Bytes (fun _ => True) W v e.cmd := by
  obtain ⟨y0, y1, y2, n, -, hl, h0, h1, h2⟩ := Go.Deep.trod_struct3 Try.underlying33 h
  have hc : Try.prog.cellsOf 33 = 3 := by kernel_rfl
  have c0 : Try.prog.cellsOf 3 = 1 := by kernel_rfl
  have c1 : Try.prog.cellsOf 2 = 1 := by kernel_rfl
  have c2 : Try.prog.cellsOf 31 = 1 := by kernel_rfl
  rw [hc] at hl
  simp only [c0, c1, c2] at h0 h1 h2
  match cs, hl with
  | [a, b, v], _ =>
    obtain ⟨k, ek, -, hk⟩ := DataW.trod_int Try.underlying3 h0
    obtain ⟨t, et, -, ht⟩ := DataW.trod_int Try.underlying2 h1
    obtain ⟨xs, hx⟩ := open_bytes (v := v) h2
    simp at ek et
    subst ek et
    exact ⟨⟨k, t, xs⟩, v, rfl, in64_wf hk, in64_wf ht, hx⟩

theorem entCells_range {S : Nat → Prop} (f : Nat → Ent) (g : Nat → Value) : ∀ n, (∀ i, i < n → in64 (f i).kind ∧ in64 (f i).term ∧ Bytes S W (g i) (f i).cmd) →
    EntCells S W ((List.range n).map f) ((List.range n).flatMap fun i => [.int .i64 (f i).kind, .int .i64 (f i).term, g i])
  | 0, _ => rfl
  | n + 1, h => by
    rw [List.range_succ, List.map_append, List.flatMap_append]
    refine EntCells.append (entCells_range f g n (fun i hi => h i (by omega))) ?_
    obtain ⟨h1, h2, h3⟩ := h n (by omega)
    exact ⟨g n, [], rfl, h1, h2, h3, rfl⟩

theorem range_len3 (f : Nat → Ent) (g : Nat → Value) (n : Nat) : ((List.range n).flatMap fun i => [Value.int .i64 (f i).kind, .int .i64 (f i).term, g i]).length = n * 3 := by
  induction n with
  | zero => rfl
  | succ n ih => rw [List.range_succ, List.flatMap_append, List.length_append, ih]; simp; omega

theorem cells_range (f : Nat → Ent) (g : Nat → Value) (b o : Nat) : ∀ n, (∀ i, i < n → W.cell? ⟨b, o + i * 3, none⟩ = some (.int .i64 (f i).kind) ∧ W.cell? ⟨b, o + i * 3 + 1, none⟩ = some (.int .i64 (f i).term) ∧ W.cell? ⟨b, o + i * 3 + 2, none⟩ = some (g i)) →
    ∀ j u, ((List.range n).flatMap fun i => [Value.int .i64 (f i).kind, .int .i64 (f i).term, g i])[j]? = some u → W.cell? ⟨b, o + j, none⟩ = some u
  | 0, _, j, u, hu => by simp at hu
  | n + 1, h, j, u, hu => by
    rw [List.range_succ, List.flatMap_append] at hu
    by_cases hj : j < n * 3
    · rw [List.getElem?_append_left (by rw [range_len3]; exact hj)] at hu
      exact cells_range f g b o n (fun i hi => h i (by omega)) j u hu
    · rw [List.getElem?_append_right (by rw [range_len3]; omega), range_len3] at hu
      obtain ⟨h0, h1, h2⟩ := h n (by omega)
      obtain ⟨r, rfl⟩ : ∃ r, j = n * 3 + r := ⟨j - n * 3, by omega⟩
      rw [Nat.add_sub_cancel_left] at hu
      match r, hu with
      | 0, hu => simp at hu; rw [← hu]; exact h0
      | 1, hu => simp at hu; rw [← hu]; exact h1
      | 2, hu => simp at hu; rw [← hu]; exact h2
      | r + 3, hu => simp at hu

/-- Entries that came in. -/
theorem open_entries {fuel : Nat} {a : Option Addr} {len cap : Nat} {x : DataW H × List MemPlace} (h : DataW.trod enc Try.prog W base spare held fuel 22 [.slice a len cap] = some x) :
    (∃ es : List Ent, es.length = len ∧ Ents (fun _ => True) W (.slice a len cap) es) ∧ (len = 0 ∨ ∃ D S, x.1 = .slice D S ∧ D.length = len) := by
  have hc : Try.prog.cellsOf 33 = 3 := by kernel_rfl
  rcases Go.Deep.open_slice Try.underlying22 h with ⟨hcs, -⟩ | ⟨ad, l', c', m, n, D, Pl, hcs, hb, hl, hm, hmm, hx, hel⟩
  · simp at hcs
    obtain ⟨rfl, rfl, rfl⟩ := hcs
    exact ⟨⟨[], rfl, [], ⟨rfl, .inl ⟨rfl, .inl rfl⟩⟩, rfl⟩, .inl rfl⟩
  · simp at hcs
    obtain ⟨rfl, rfl, rfl⟩ := hcs
    refine ⟨?_, .inr ⟨_, _, by rw [hx], by simp⟩⟩
    have hlm : len ≤ m := by rw [hmm]; split <;> omega
    rcases Nat.eq_zero_or_pos len with rfl | hp
    · exact ⟨[], rfl, [], ⟨rfl, .inl ⟨rfl, .inr ⟨ad, cap, rfl⟩⟩⟩, rfl⟩
    · rw [hc] at hel
      have hch : ∀ i, i < len → ∃ p : Ent × Value, W.cell? (ad.add (i * 3)) = some (.int .i64 p.1.kind) ∧ W.cell? ((ad.add (i * 3)).add 1) = some (.int .i64 p.1.term) ∧ W.cell? ((ad.add (i * 3)).add 2) = some p.2 ∧
          in64 p.1.kind ∧ in64 p.1.term ∧ Bytes (fun _ => True) W p.2 p.1.cmd := by
        intro i hi
        obtain ⟨cs', h1, h2⟩ := hel i (by omega)
        obtain ⟨e, v, rfl, he1, he2, he3⟩ := open_entry h2
        obtain ⟨-, -, hce⟩ := World.cells?_some h1
        have z0 := hce 0 (by omega)
        have z1 := hce 1 (by omega)
        have z2 := hce 2 (by omega)
        simp only [List.getElem?_cons_zero, List.getElem?_cons_succ] at z0 z1 z2
        refine ⟨(e, v), ?_, z1, z2, he1, he2, he3⟩
        have e0 : (ad.add (i * 3)).add 0 = ad.add (i * 3) := by rw [Go.Deep.add_add]; rfl
        rwa [e0] at z0
      haveI : Inhabited (Ent × Value) := ⟨(⟨0, 0, []⟩, .nilIface)⟩
      obtain ⟨f, hf⟩ := Go.Deep.choose_lt hch
      obtain ⟨b, off, spot⟩ := ad
      have hc0 := (hf 0 hp).1
      have hspot : spot = none := by simpa [Addr.add] using World.cell?_spot hc0
      subst hspot
      have hcell : ∀ i, i < len → W.cell? ⟨b, off + i * 3, none⟩ = some (.int .i64 (f i).1.kind) ∧ W.cell? ⟨b, off + i * 3 + 1, none⟩ = some (.int .i64 (f i).1.term) ∧ W.cell? ⟨b, off + i * 3 + 2, none⟩ = some (f i).2 := by
        intro i hi
        obtain ⟨z0, z1, z2, -⟩ := hf i hi
        simp only [add_plain] at z0 z1 z2
        exact ⟨z0, z1, z2⟩
      refine ⟨(List.range len).map fun i => (f i).1, by simp, (List.range len).flatMap fun i => [.int .i64 (f i).1.kind, .int .i64 (f i).1.term, (f i).2], ?_, ?_⟩
      · refine ⟨by rw [range_len3 (fun i => (f i).1) (fun i => (f i).2)]; simp, .inr ⟨b, off, cap, by simp, by simpa using hl, hm, trivial, ?_, ?_⟩⟩
        · exact block_lt (hcell 0 hp).1
        · exact cells_range (fun i => (f i).1) (fun i => (f i).2) b off len hcell
      · exact entCells_range (fun i => (f i).1) (fun i => (f i).2) len fun i hi => ⟨(hf i hi).2.2.2.1, (hf i hi).2.2.2.2.1, (hf i hi).2.2.2.2.2⟩
end
end Go.Proofs.Ytahagecdebadfaa

namespace Go.Proofs.Ytahagecdebadfaa
open Go.ChangeShapes Go.WideShapes Go.RowKit

section
variable {H : Type} {enc : TypeId × Value → H} {W : World} {base : Nat} {spare : Nat → Bool} {held : Bool}
theorem open_rows2 {fuel : Nat} {v : Value} {x : DataW H × List MemPlace} (h : DataW.trod enc Try.prog W base spare held fuel 75 [v] = some x) :
    ∃ xss : List (List UInt8), Rows2 (fun b => b < W.heap.size) W v xss := by
  have hc : Try.prog.cellsOf 31 = 1 := by kernel_rfl
  rcases Go.Deep.open_slice Try.underlying75 h with ⟨hcs, -⟩ | ⟨ad, len, cap, m, n, D, Pl, hcs, hb, hl, hm, hmm, hx, hel⟩
  · simp at hcs
    subst hcs
    exact ⟨[], [], ⟨rfl, .inl ⟨rfl, .inl rfl⟩⟩, fun i h => by simp at h⟩
  · simp at hcs
    subst hcs
    have hlm : len ≤ m := by rw [hmm]; split <;> omega
    rcases Nat.eq_zero_or_pos len with rfl | hp
    · exact ⟨[], [], ⟨rfl, .inl ⟨rfl, .inr ⟨ad, cap, rfl⟩⟩⟩, fun i h => by simp at h⟩
    · rw [hc] at hel
      have hch : ∀ i, i < len → ∃ p : Value × List UInt8, W.cell? (ad.add (i * 1)) = some p.1 ∧ Bytes (fun b => b < W.heap.size) W p.1 p.2 := by
        intro i hi
        obtain ⟨cs', h1, h2⟩ := hel i (by omega)
        obtain ⟨q1, q2, hce⟩ := World.cells?_some h1
        have hlen : cs'.length = 1 := by first | exact q1 | exact q2 | simpa using q1 | simpa using q2
        match cs', hlen with
        | [u], _ =>
          obtain ⟨xs, hxs⟩ := open_bytes (v := u) h2
          have z0 := hce 0 (by simp)
          simp only [List.getElem?_cons_zero] at z0
          have e0 : (ad.add (i * 1)).add 0 = ad.add (i * 1) := by rw [Go.Deep.add_add]; rfl
          rw [e0] at z0
          exact ⟨(u, xs), z0, Bytes.mono hxs (fun b hb _ => hb)⟩
      haveI : Inhabited (Value × List UInt8) := ⟨(.nilIface, [])⟩
      obtain ⟨f, hf⟩ := Go.Deep.choose_lt hch
      obtain ⟨b, off, spot⟩ := ad
      have hc0 := (hf 0 hp).1
      have hspot : spot = none := by simpa [Addr.add] using World.cell?_spot hc0
      subst hspot
      have hcell : ∀ i, i < len → W.cell? ⟨b, off + i, none⟩ = some (f i).1 := by
        intro i hi
        have := (hf i hi).1
        rw [add_plain, Nat.mul_one] at this
        exact this
      refine ⟨(List.range len).map fun i => (f i).2, (List.range len).map fun i => (f i).1, ⟨by simp, .inr ⟨b, off, cap, by simp, by simpa using hl, hm, block_lt (hcell 0 hp), block_lt (hcell 0 hp), fun i u hu => ?_⟩⟩, fun i hi => ?_⟩
      · have hi : i < len := by have := (List.getElem?_eq_some_iff.1 hu).1; simpa using this
        rw [hcell i hi]
        simpa [List.getElem?_map, List.getElem?_range hi] using hu
      · have hi' : i < len := by simpa using hi
        refine ⟨(f i).1, by simp [List.getElem?_map, List.getElem?_range hi'], ?_⟩
        have := (hf i hi').2
        simpa using this
end
end Go.Proofs.Ytahagecdebadfaa

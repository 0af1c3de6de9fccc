/- Texts that belong together, in one file: LetB, LetC, LetD. No statement is proved here. -/
import Derived.Test.YtoaoldhajpbenaaQLetA
import Derived.RegionTactic
import Derived.ChangeAlike
import Derived.StillTailTactics
namespace Go.Proofs.Ytoaoldhajpbenaa
open Go.RowKit

theorem idx5_0 (a b c d e : Value) (w : World) : (Instr.index 123 (.agg #[a, b, c, d, e]) (.int .i64 0)).run Try.prog w = .ok a w := by kernel_rfl
theorem idx5_1 (a b c d e : Value) (w : World) : (Instr.index 123 (.agg #[a, b, c, d, e]) (.int .i64 1)).run Try.prog w = .ok b w := by kernel_rfl
theorem idx5_2 (a b c d e : Value) (w : World) : (Instr.index 123 (.agg #[a, b, c, d, e]) (.int .i64 2)).run Try.prog w = .ok c w := by kernel_rfl
theorem idx5_3 (a b c d e : Value) (w : World) : (Instr.index 123 (.agg #[a, b, c, d, e]) (.int .i64 3)).run Try.prog w = .ok d w := by kernel_rfl
theorem idx5_4 (a b c d e : Value) (w : World) : (Instr.index 123 (.agg #[a, b, c, d, e]) (.int .i64 4)).run Try.prog w = .ok e w := by kernel_rfl
attribute [go_sem] idx5_0 idx5_1 idx5_2 idx5_3 idx5_4
theorem ret_i {a b : Int} (h : a = b) : Ending.returned (.int .i64 a) = .returned (.int .i64 b) := by rw [h]
theorem numbers_any (b : Nat) (w : World) :
    Calls Try.prog 66 #[.pointer (some ⟨b, 0, none⟩)] w fun e w' => e = .returned (.agg #[.pointer (some ⟨b, 3, none⟩), .pointer (some ⟨b, 4, none⟩), .pointer (some ⟨b, 5, none⟩), .pointer (some ⟨b, 6, none⟩), .pointer (some ⟨b, 7, none⟩)]) ∧ Below w.heap.size w w' := by
  go_enter Try.func66, Try.ntmps66
  go_wp2_with fail
  go_region
  go_wp2_with fail
  refine bodyPost_ret (v := .agg #[.pointer (some ⟨b, 3, none⟩), .pointer (some ⟨b, 4, none⟩), .pointer (some ⟨b, 5, none⟩), .pointer (some ⟨b, 6, none⟩), .pointer (some ⟨b, 7, none⟩)]) (by simp [results, Try.results66, go_sem]) rfl ⟨rfl, below_drew1 (box_below _ _)⟩

def out255 (n : Int) : Bool := decide (n < 0) || decide (255 < n)
theorem efits1_any (n : Int) (w : World) : Calls Try.prog 88 #[.int .i64 n] w fun e w' => e = .returned (.bool (out255 n)) ∧ w = w' := by
  by_cases h : n < 0
  · go_enter Try.func88, Try.ntmps88
    go_wp2_with fail
    go_ret
    exact ⟨by simp [out255, h], rfl⟩
  · go_enter Try.func88, Try.ntmps88
    go_wp2_with fail
    go_ret
    exact ⟨by simp [out255]; omega, rfl⟩
theorem efits2_any {S : Nat → Prop} (k t : Int) (v : Value) (xs : List UInt8) (w : World) (hv : Bytes S w v xs) :
    Calls Try.prog 91 #[.agg #[.int .i64 k, .int .i64 t, v]] w fun e w' => e = .returned (.bool (!rightB ⟨k, t, xs⟩)) ∧ Below w.heap.size w w' := by
  have hR := right_any k t v xs _ (hv.keep (box_below w (.cells #[.int .i64 k, .int .i64 t, v] 33)))
  have HB := Lib.hid (box_below w (.cells #[.int .i64 k, .int .i64 t, v] 33))
  have HR := Lib.hid hR
  obtain ⟨A, c, rfl⟩ := hv.slice
  clear hv hR
  go_enter Try.func91, Try.ntmps91
  go_wp2_with fail
  refine HR.out.mono ?_
  rintro _ w1 ⟨rfl, hb⟩
  go_wp2_with fail
  go_ret
  exact ⟨rfl, below_then HB.out hb⟩

set_option maxRecDepth 100000 in
set_option maxHeartbeats 2000000 in
theorem idxInts_any (b : Nat) (x y z : Int) (w : World) (h : w.heap[b]? = some (.cells #[.int .i64 x, .int .i64 y, .int .i64 z] 3 (0, 0))) :
    Calls Try.prog 102 #[.slice (some ⟨b, 0, none⟩) 3 3, .func (.func 88) #[] #[]] w fun e w' => ∃ n, e = .returned (.int .i64 n) ∧ decide (n ≥ 0) = (out255 x || out255 y || out255 z) ∧ w = w' := by
  obtain ⟨c0, c1, c2, -, -, -⟩ := cells3 h
  have e0 := efits1_any x w
  have e1 := efits1_any y w
  have e2 := efits1_any z w
  generalize out255 x = bx at *
  generalize out255 y = by_ at *
  generalize out255 z = bz at *
  have E0 := Lib.hid e0
  have E1 := Lib.hid e1
  have E2 := Lib.hid e2
  clear h e0 e1 e2
  cases bx with
  | true =>
    go_enter Try.func102, Try.ntmps102
    go_wp2_with fail
    refine wp_loop_rounds 4 ?_
    rw [rounds_succ]
    go_wp2_with (go_at_call 88; refine E0.out.mono ?_; rintro _ _ ⟨rfl, rfl⟩)
    go_ret
    exact ⟨_, rfl, rfl, rfl⟩
  | false =>
    cases by_ with
    | true =>
      go_enter Try.func102, Try.ntmps102
      go_wp2_with fail
      refine wp_loop_rounds 4 ?_
      rw [rounds_succ]
      go_wp2_with (go_at_call 88; refine E0.out.mono ?_; rintro _ _ ⟨rfl, rfl⟩)
      rw [rounds_succ]
      go_wp2_with (go_at_call 88; refine E1.out.mono ?_; rintro _ _ ⟨rfl, rfl⟩)
      go_ret
      exact ⟨_, rfl, rfl, rfl⟩
    | false =>
      cases bz with
      | true =>
        go_enter Try.func102, Try.ntmps102
        go_wp2_with fail
        refine wp_loop_rounds 4 ?_
        rw [rounds_succ]
        go_wp2_with (go_at_call 88; refine E0.out.mono ?_; rintro _ _ ⟨rfl, rfl⟩)
        rw [rounds_succ]
        go_wp2_with (go_at_call 88; refine E1.out.mono ?_; rintro _ _ ⟨rfl, rfl⟩)
        rw [rounds_succ]
        go_wp2_with (go_at_call 88; refine E2.out.mono ?_; rintro _ _ ⟨rfl, rfl⟩)
        go_ret
        exact ⟨_, rfl, rfl, rfl⟩
      | false =>
        go_enter Try.func102, Try.ntmps102
        go_wp2_with fail
        refine wp_loop_rounds 4 ?_
        rw [rounds_succ]
        go_wp2_with (go_at_call 88; refine E0.out.mono ?_; rintro _ _ ⟨rfl, rfl⟩)
        rw [rounds_succ]
        go_wp2_with (go_at_call 88; refine E1.out.mono ?_; rintro _ _ ⟨rfl, rfl⟩)
        rw [rounds_succ]
        go_wp2_with (go_at_call 88; refine E2.out.mono ?_; rintro _ _ ⟨rfl, rfl⟩)
        rw [rounds_succ]
        go_wp2_with fail
        go_ret
        exact ⟨_, rfl, rfl, rfl⟩

theorem contInts_any (b : Nat) (x y z : Int) (w : World) (h : w.heap[b]? = some (.cells #[.int .i64 x, .int .i64 y, .int .i64 z] 3 (0, 0))) :
    Calls Try.prog 89 #[.slice (some ⟨b, 0, none⟩) 3 3, .func (.func 88) #[] #[]] w fun e w' => e = .returned (.bool (out255 x || out255 y || out255 z)) ∧ w = w' := by
  have hi := idxInts_any b x y z w h
  generalize (out255 x || out255 y || out255 z) = r at *
  have HI := Lib.hid hi
  clear h hi
  go_enter Try.func89, Try.ntmps89
  go_wp2_with fail
  refine HI.out.mono ?_
  rintro _ _ ⟨n, rfl, hn, rfl⟩
  have Hn := Lib.hid hn
  clear hn
  go_wp2_with fail
  go_ret
  exact ⟨ret_bool Hn.out, rfl⟩

set_option maxRecDepth 100000 in
set_option maxHeartbeats 2000000 in
theorem idxEnts_any {S : Nat → Prop} (v : Value) (l : List Ent) (w : World) (hv : Ents S w v l) :
    Calls Try.prog 103 #[v, .func (.func 91) #[] #[]] w fun e w' => ∃ n, e = .returned (.int .i64 n) ∧ decide (n ≥ 0) = !(l.all rightB) ∧ Below w.heap.size w w' := by
  obtain ⟨A, c, rfl⟩ := hv.slice
  have hle : l.length ≤ 9223372036854775807 := by obtain ⟨cs, hr, -⟩ := hv; have := hr.le; unfold maxLen at this; omega
  have HE := Lib.hid hv
  clear hv
  go_enter Try.func103, Try.ntmps103
  go_wp2_with fail
  go_loopw [8] (fun s8 wr => ∃ k : Nat, k ≤ l.length ∧ s8 = .int .i64 k ∧ Hid ((l.take k).all rightB = true) ∧ Below w.heap.size w wr) (fun s8 _ => l.length - (intOf s8).toNat)
  case atStart => exact ⟨0, Nat.zero_le _, rfl, Lib.hid rfl, Below.refl _ _⟩
  case round =>
    obtain ⟨k, hk, rfl, HA, hb⟩ := hrel
    by_cases hlt : k < l.length
    · obtain ⟨cs, hr, he⟩ := HE.out
      obtain ⟨ab, ao, ac, hv, hn, hc, -, hab, hcell⟩ := hr.form (by omega)
      injection hv with hv1 _ hv3
      subst hv1 hv3
      obtain ⟨ev, a0, a1, a2, -, -, hy⟩ := he.at k hlt
      have x0 := cell_keep hb (hcell _ _ a0)
      have x1 := cell_keep hb (hcell _ _ a1)
      have x2 := cell_keep hb (hcell _ _ a2)
      rw [← Nat.add_assoc] at x1 x2
      have hq := efits2_any l[k].kind l[k].term ev l[k].cmd wr (hy.keep hb)
      have hsn : l.take (k + 1) = l.take k ++ [l[k]] := by rw [List.take_succ_eq_append_getElem hlt]
      have hall : (l.take (k + 1)).all rightB = rightB l[k] := by rw [hsn, List.all_append, HA.out]; simp
      have hno : rightB l[k] = false → l.all rightB = false := fun h => by
        rw [List.all_eq_false]
        exact ⟨l[k], List.getElem_mem hlt, by simp [h]⟩
      have eta : (⟨l[k].kind, l[k].term, l[k].cmd⟩ : Ent) = l[k] := rfl
      rw [eta] at hq
      have HALL := Lib.hid (And.intro hall hno)
      obtain ⟨AE, cE, rfl⟩ := hy.slice
      unfold maxLen at hc
      have hlt2 : (k : Int) < (l.length : Int) := by omega
      have HBk := Lib.hid hb
      obtain ⟨rb, hrb⟩ : ∃ rb, rb = rightB l[k] := ⟨_, rfl⟩
      rw [← hrb] at hq HALL
      have Hq := Lib.hid hq
      clear hall hno hsn eta hcell a0 a1 a2 hr he hy hq hb hrb
      cases rb with
      | false =>
        go_wp2_with (go_at_call 91; refine Hq.out.mono ?_; rintro _ w1 ⟨rfl, hb1⟩)
        go_ret
        exact ⟨_, rfl, by rw [HALL.out.2 trivial]; simp, below_then HBk.out hb1⟩
      | true =>
        go_wp2_with (go_at_call 91; refine Hq.out.mono ?_; rintro _ w1 ⟨rfl, hb1⟩)
        go_roundw
        case rel => exact ⟨k + 1, hlt, by go_num, Lib.hid HALL.out.1, below_then HBk.out hb1⟩
        case measure => simp [intOf]; omega
    · obtain rfl : k = l.length := by omega
      have hA := HA.out
      rw [List.take_length] at hA
      have HA2 := Lib.hid hA
      clear hA
      go_wp2_with fail
      go_ret
      exact ⟨_, rfl, by rw [HA2.out]; rfl, hb⟩

theorem contEnts_any {S : Nat → Prop} (v : Value) (l : List Ent) (w : World) (hv : Ents S w v l) :
    Calls Try.prog 90 #[v, .func (.func 91) #[] #[]] w fun e w' => e = .returned (.bool (!(l.all rightB))) ∧ Below w.heap.size w w' := by
  have hi := idxEnts_any v l w hv
  obtain ⟨A, c, rfl⟩ := hv.slice
  generalize (!(l.all rightB)) = r at *
  have HI := Lib.hid hi
  clear hv hi
  go_enter Try.func90, Try.ntmps90
  go_wp2_with fail
  refine HI.out.mono ?_
  rintro _ w1 ⟨n, rfl, hn, hb⟩
  have Hn := Lib.hid hn
  clear hn
  go_wp2_with fail
  go_ret
  exact ⟨ret_bool Hn.out, hb⟩

/-- Whether a message can be. -/
def msgOK (m : Msg) : Bool :=
  mayB m.term && mayB m.at_ && mayB m.atTerm && mayB m.commit && mayB m.round && !(out255 m.kind || out255 m.src || out255 m.dst) && m.l.all rightB

set_option maxRecDepth 100000 in
set_option maxHeartbeats 4000000 in
theorem mfits_any {S : Nat → Prop} (m : Msg) (vl vd : Value) (w : World) (hm : MsgAt S w m vl vd) :
    Calls Try.prog 64 #[.agg (msgCells m vl vd).toArray] w fun e w' => e = .returned (.int .i64 (if msgOK m = true then 0 else 1)) ∧ Below w.heap.size w w' := by
  obtain ⟨hE, hD, -⟩ := hm
  obtain ⟨k0, k1, k2, k3, k4, k5, k6, k7, yes, l, data⟩ := m
  have hok : msgOK ⟨k0, k1, k2, k3, k4, k5, k6, k7, yes, l, data⟩ = (mayB k3 && mayB k4 && mayB k5 && mayB k6 && mayB k7 && !(out255 k0 || out255 k1 || out255 k2) && l.all rightB) := rfl
  rw [hok]
  obtain ⟨R, hR⟩ : ∃ R : Int, R = if (mayB k3 && mayB k4 && mayB k5 && mayB k6 && mayB k7 && !(out255 k0 || out255 k1 || out255 k2) && l.all rightB) = true then 0 else 1 := ⟨_, rfl⟩
  rw [← hR]
  have HR := Lib.hid hR
  clear hok hR
  simp only [msgCells] at hE hD ⊢
  obtain ⟨A, cA, rfl⟩ := hE.slice
  obtain ⟨B, cB, rfl⟩ := hD.slice
  have hblk := blk_new w (.cells #[.int .i64 k0, .int .i64 k1, .int .i64 k2, .int .i64 k3, .int .i64 k4, .int .i64 k5, .int .i64 k6, .int .i64 k7, .bool yes, .slice A l.length cA, .slice B data.length cB] 65)
  have hb0 := box_below w (.cells #[.int .i64 k0, .int .i64 k1, .int .i64 k2, .int .i64 k3, .int .i64 k4, .int .i64 k5, .int .i64 k6, .int .i64 k7, .bool yes, .slice A l.length cA, .slice B data.length cB] 65)
  obtain ⟨W0, hW0⟩ : ∃ W, w.alloc (.cells #[.int .i64 k0, .int .i64 k1, .int .i64 k2, .int .i64 k3, .int .i64 k4, .int .i64 k5, .int .i64 k6, .int .i64 k7, .bool yes, .slice A l.length cA, .slice B data.length cB] 65) = W := ⟨_, rfl⟩
  rw [hW0] at hblk hb0
  have HE := Lib.hid hE
  have HB0 := Lib.hid hb0
  have Hblk := Lib.hid hblk
  clear hE hD hb0 hblk
  go_enter Try.func64, Try.ntmps64
  go_wp2_with fail
  clear hW0
  refine (numbers_any _ _).mono ?_
  rintro _ W1 ⟨rfl, hb⟩
  have hblk1 := blk_keep hb Hblk.out
  obtain ⟨⟨d0, d1, d2, d3, d4, d5, d6, d7, d8, d9, d10⟩, -⟩ := cells11 hblk1
  have HB1 := Lib.hid (below_then HB0.out hb)
  have Hblk1 := Lib.hid hblk1
  clear hb hblk1
  go_wp2_with fail
  refine wp_loop_rounds 6 ?_
  have hm3 := fun W => may_any k3 W
  rw [rounds_succ]
  cases h3 : mayB k3 with
  | false =>
    rw [h3] at hm3
    have HM3 := Lib.hid hm3
    clear hm3
    go_wp2_with (go_at_call 81; refine (HM3.out _).mono ?_; rintro _ _ ⟨rfl, rfl⟩)
    go_ret
    exact ⟨ret_i (by rw [HR.out, h3]; rfl), HB1.out⟩
  | true =>
    rw [h3] at hm3
    have HM3 := Lib.hid hm3
    clear hm3
    go_wp2_with (go_at_call 81; refine (HM3.out _).mono ?_; rintro _ _ ⟨rfl, rfl⟩)
    have hm4 := fun W => may_any k4 W
    rw [rounds_succ]
    cases h4 : mayB k4 with
    | false =>
      rw [h4] at hm4
      have HM4 := Lib.hid hm4
      clear hm4
      go_wp2_with (go_at_call 81; refine (HM4.out _).mono ?_; rintro _ _ ⟨rfl, rfl⟩)
      go_ret
      exact ⟨ret_i (by rw [HR.out, h3, h4]; rfl), HB1.out⟩
    | true =>
      rw [h4] at hm4
      have HM4 := Lib.hid hm4
      clear hm4
      go_wp2_with (go_at_call 81; refine (HM4.out _).mono ?_; rintro _ _ ⟨rfl, rfl⟩)
      have hm5 := fun W => may_any k5 W
      rw [rounds_succ]
      cases h5 : mayB k5 with
      | false =>
        rw [h5] at hm5
        have HM5 := Lib.hid hm5
        clear hm5
        go_wp2_with (go_at_call 81; refine (HM5.out _).mono ?_; rintro _ _ ⟨rfl, rfl⟩)
        go_ret
        exact ⟨ret_i (by rw [HR.out, h3, h4, h5]; rfl), HB1.out⟩
      | true =>
        rw [h5] at hm5
        have HM5 := Lib.hid hm5
        clear hm5
        go_wp2_with (go_at_call 81; refine (HM5.out _).mono ?_; rintro _ _ ⟨rfl, rfl⟩)
        have hm6 := fun W => may_any k6 W
        rw [rounds_succ]
        cases h6 : mayB k6 with
        | false =>
          rw [h6] at hm6
          have HM6 := Lib.hid hm6
          clear hm6
          go_wp2_with (go_at_call 81; refine (HM6.out _).mono ?_; rintro _ _ ⟨rfl, rfl⟩)
          go_ret
          exact ⟨ret_i (by rw [HR.out, h3, h4, h5, h6]; rfl), HB1.out⟩
        | true =>
          rw [h6] at hm6
          have HM6 := Lib.hid hm6
          clear hm6
          go_wp2_with (go_at_call 81; refine (HM6.out _).mono ?_; rintro _ _ ⟨rfl, rfl⟩)
          have hm7 := fun W => may_any k7 W
          rw [rounds_succ]
          cases h7 : mayB k7 with
          | false =>
            rw [h7] at hm7
            have HM7 := Lib.hid hm7
            clear hm7
            go_wp2_with (go_at_call 81; refine (HM7.out _).mono ?_; rintro _ _ ⟨rfl, rfl⟩)
            go_ret
            exact ⟨ret_i (by rw [HR.out, h3, h4, h5, h6, h7]; rfl), HB1.out⟩
          | true =>
            rw [h7] at hm7
            have HM7 := Lib.hid hm7
            clear hm7
            go_wp2_with (go_at_call 81; refine (HM7.out _).mono ?_; rintro _ _ ⟨rfl, rfl⟩)
            rw [rounds_succ]
            go_wp2_with fail
            have hI := blk_new W1 (.cells #[.int .i64 k0, .int .i64 k1, .int .i64 k2] 3)
            have hbI := box_below W1 (.cells #[.int .i64 k0, .int .i64 k1, .int .i64 k2] 3)
            have hCI := contInts_any W1.heap.size k0 k1 k2 _ hI
            have HCI := Lib.hid hCI
            have hCE := contEnts_any (.slice A l.length cA) l _ (HE.out.keep (below_then HB1.out hbI))
            have HCE := Lib.hid hCE
            have e9 := cell_keep hbI d9
            have HB2 := Lib.hid (below_then HB1.out hbI)
            clear hI hbI hCI hCE
            cases hO : (out255 k0 || out255 k1 || out255 k2) with
            | true =>
              rw [hO] at HCI
              refine HCI.out.mono ?_
              rintro _ _ ⟨rfl, rfl⟩
              go_wp2_with fail
              go_ret
              exact ⟨ret_i (by rw [HR.out, h3, h4, h5, h6, h7, hO]; rfl), HB2.out⟩
            | false =>
              rw [hO] at HCI
              refine HCI.out.mono ?_
              rintro _ _ ⟨rfl, rfl⟩
              cases hA : l.all rightB with
              | true =>
                rw [hA] at HCE
                go_wp2_with (go_at_call 90; refine HCE.out.mono ?_; rintro _ W2 ⟨rfl, hb2⟩)
                go_ret
                exact ⟨ret_i (by rw [HR.out, h3, h4, h5, h6, h7, hO, hA]; rfl), below_then HB2.out hb2⟩
              | false =>
                rw [hA] at HCE
                go_wp2_with (go_at_call 90; refine HCE.out.mono ?_; rintro _ W2 ⟨rfl, hb2⟩)
                go_ret
                exact ⟨ret_i (by rw [HR.out, h3, h4, h5, h6, h7, hO, hA]; rfl), below_then HB2.out hb2⟩
end Go.Proofs.Ytoaoldhajpbenaa

namespace Go.Proofs.Ytoaoldhajpbenaa
open Go.RowKit

/-- Since the world W0 the writer in block g has come to the bytes xs; what lies in S is as it was. -/
def Wr (T : TypeId) (W0 : World) (S : Nat → Prop) (B g : Nat) (w : World) (xs : List UInt8) : Prop :=
  WrS T S B w g xs 0 ∧ Same S W0 w ∧ Below B W0 w ∧ (∀ b, S b → b < W0.heap.size) ∧ B ≤ W0.heap.size
section
variable {T : TypeId} {W0 w w' : World} {S : Nat → Prop} {B g : Nat} {xs ys : List UInt8}
theorem Wr.lt (h : Wr T W0 S B g w xs) : ∀ b, S b → b < w.heap.size := fun b hb => Nat.lt_of_lt_of_le (h.2.2.2.1 b hb) h.2.1.size
theorem Wr.step (h : Wr T W0 S B g w xs) (k : WrS T S B w' g ys 0 ∧ Same S w w' ∧ Below B w w') : Wr T W0 S B g w' ys := ⟨k.1, h.2.1.trans k.2.1, h.2.2.1.trans k.2.2, h.2.2.2⟩
theorem Wr.below (h : Wr T W0 S B g w xs) (hb : Below w.heap.size w w') : Wr T W0 S B g w' xs :=
  ⟨h.1.keep hb, h.2.1.trans (Same.of_below' hb S), h.2.2.1.trans (hb.mono (Nat.le_trans h.2.2.2.2 h.2.2.1.size)), h.2.2.2⟩
theorem Wr.cell (h : Wr T W0 S B g w xs) {p : Addr} {v : Value} (hp : S p.block) (hc : W0.cell? p = some v) : w.cell? p = some v := h.2.1.cell hp hc
theorem Wr.at_ (h : Wr T W0 S B g w xs) : WrAt T B w g xs 0 := h.1.at_
theorem Wr.bel (h : Wr T W0 S B g w xs) : Below B W0 w := h.2.2.1
theorem Wr.same (h : Wr T W0 S B g w xs) : Same S W0 w := h.2.1
end

section
variable {W0 w : World} {S : Nat → Prop} {B g : Nat} {xs : List UInt8}
theorem wr_num1 (h : Wr 142 W0 S B g w xs) (n : Int) (h0 : 0 ≤ n) (h1 : n < 256) (hx : xs.length ≤ 1000000000) :
    Calls Try.prog 65 #[.pointer (some ⟨g, 0, none⟩), .int .i64 1, .int .i64 n] w fun e w' => (∃ v, e = .returned v) ∧ Wr 142 W0 S B g w' (xs ++ be 1 n.toNat) :=
  (wnum_at1 S B g xs n w h.1 h.lt h0 h1 hx).mono fun _ _ ⟨hv, k⟩ => ⟨hv, h.step k⟩
theorem wr_num2 (h : Wr 142 W0 S B g w xs) (n : Int) (h0 : 0 ≤ n) (h1 : n < 65536) (hx : xs.length ≤ 1000000000) :
    Calls Try.prog 65 #[.pointer (some ⟨g, 0, none⟩), .int .i64 2, .int .i64 n] w fun e w' => (∃ v, e = .returned v) ∧ Wr 142 W0 S B g w' (xs ++ be 2 n.toNat) :=
  (wnum_at2 S B g xs n w h.1 h.lt h0 h1 hx).mono fun _ _ ⟨hv, k⟩ => ⟨hv, h.step k⟩
theorem wr_num4 (h : Wr 142 W0 S B g w xs) (n : Int) (h0 : 0 ≤ n) (h1 : n < 4294967296) (hx : xs.length ≤ 1000000000) :
    Calls Try.prog 65 #[.pointer (some ⟨g, 0, none⟩), .int .i64 4, .int .i64 n] w fun e w' => (∃ v, e = .returned v) ∧ Wr 142 W0 S B g w' (xs ++ be 4 n.toNat) :=
  (wnum_at4 S B g xs n w h.1 h.lt h0 h1 hx).mono fun _ _ ⟨hv, k⟩ => ⟨hv, h.step k⟩
theorem wr_num6 (h : Wr 142 W0 S B g w xs) (n : Int) (h0 : 0 ≤ n) (h1 : n < 281474976710656) (hx : xs.length ≤ 1000000000) :
    Calls Try.prog 65 #[.pointer (some ⟨g, 0, none⟩), .int .i64 6, .int .i64 n] w fun e w' => (∃ v, e = .returned v) ∧ Wr 142 W0 S B g w' (xs ++ be 6 n.toNat) :=
  (wnum_at6 S B g xs n w h.1 h.lt h0 h1 hx).mono fun _ _ ⟨hv, k⟩ => ⟨hv, h.step k⟩
theorem wr_bytes4 {S1 : Nat → Prop} (h : Wr 142 W0 S B g w xs) (y : Value) (p : List UInt8) (hp : Bytes S1 w y p) (hx : xs.length ≤ 100000000) (hl : p.length ≤ 65536) :
    Calls Try.prog 67 #[.pointer (some ⟨g, 0, none⟩), .int .i64 4, y] w fun e w' => (∃ v, e = .returned v) ∧ Wr 142 W0 S B g w' (xs ++ be 4 p.length ++ p) :=
  (wbytes_at4 S B g xs p y w h.1 h.lt hp hx hl).mono fun _ _ ⟨hv, k⟩ => ⟨hv, h.step k⟩
theorem wr_entry (h : Wr 142 W0 S B g w xs) (e : Ent) (y : Value) (hp : Bytes S w y e.cmd) (hr : rightB e = true) (hx : xs.length ≤ 90000000) :
    Calls Try.prog 52 #[.agg #[.pointer (some ⟨g, 0, none⟩)], .agg #[.int .i64 e.kind, .int .i64 e.term, y]] w fun r w' => (∃ v, r = .returned v) ∧ Wr 142 W0 S B g w' (xs ++ encE e) :=
  (lentry_ok S B g xs e y w h.1 h.lt hp hr hx).mono fun _ _ ⟨hv, k⟩ => ⟨hv, h.step k⟩
theorem wr_end (h : Wr 142 W0 S B g w xs) (hx : xs.length ≤ 1000000000) :
    Calls Try.prog 53 #[.pointer (some ⟨g, 0, none⟩)] w fun e w' => ∃ v, e = .returned (.tuple #[v, .int .i64 0]) ∧ Bytes (w.heap.size ≤ ·) w' v xs ∧ Below w.heap.size w w' := wend_ok B g xs w h.at_ hx

theorem rwr_num1 (h : Wr 109 W0 S B g w xs) (n : Int) (h0 : 0 ≤ n) (h1 : n < 256) (hx : xs.length ≤ 1000000000) :
    Calls Try.prog 70 #[.pointer (some ⟨g, 0, none⟩), .int .i64 1, .int .i64 n] w fun e w' => (∃ v, e = .returned v) ∧ Wr 109 W0 S B g w' (xs ++ be 1 n.toNat) :=
  (rwnum_at1 S B g xs n w h.1 h.lt h0 h1 hx).mono fun _ _ ⟨hv, k⟩ => ⟨hv, h.step k⟩
theorem rwr_num2 (h : Wr 109 W0 S B g w xs) (n : Int) (h0 : 0 ≤ n) (h1 : n < 65536) (hx : xs.length ≤ 1000000000) :
    Calls Try.prog 70 #[.pointer (some ⟨g, 0, none⟩), .int .i64 2, .int .i64 n] w fun e w' => (∃ v, e = .returned v) ∧ Wr 109 W0 S B g w' (xs ++ be 2 n.toNat) :=
  (rwnum_at2 S B g xs n w h.1 h.lt h0 h1 hx).mono fun _ _ ⟨hv, k⟩ => ⟨hv, h.step k⟩
theorem rwr_num4 (h : Wr 109 W0 S B g w xs) (n : Int) (h0 : 0 ≤ n) (h1 : n < 4294967296) (hx : xs.length ≤ 1000000000) :
    Calls Try.prog 70 #[.pointer (some ⟨g, 0, none⟩), .int .i64 4, .int .i64 n] w fun e w' => (∃ v, e = .returned v) ∧ Wr 109 W0 S B g w' (xs ++ be 4 n.toNat) :=
  (rwnum_at4 S B g xs n w h.1 h.lt h0 h1 hx).mono fun _ _ ⟨hv, k⟩ => ⟨hv, h.step k⟩
theorem rwr_num6 (h : Wr 109 W0 S B g w xs) (n : Int) (h0 : 0 ≤ n) (h1 : n < 281474976710656) (hx : xs.length ≤ 1000000000) :
    Calls Try.prog 70 #[.pointer (some ⟨g, 0, none⟩), .int .i64 6, .int .i64 n] w fun e w' => (∃ v, e = .returned v) ∧ Wr 109 W0 S B g w' (xs ++ be 6 n.toNat) :=
  (rwnum_at6 S B g xs n w h.1 h.lt h0 h1 hx).mono fun _ _ ⟨hv, k⟩ => ⟨hv, h.step k⟩
theorem rwr_bytes4 {S1 : Nat → Prop} (h : Wr 109 W0 S B g w xs) (y : Value) (p : List UInt8) (hp : Bytes S1 w y p) (hx : xs.length ≤ 100000000) (hl : p.length ≤ 65536) :
    Calls Try.prog 71 #[.pointer (some ⟨g, 0, none⟩), .int .i64 4, y] w fun e w' => (∃ v, e = .returned v) ∧ Wr 109 W0 S B g w' (xs ++ be 4 p.length ++ p) :=
  (rwbytes_at4 S B g xs p y w h.1 h.lt hp hx hl).mono fun _ _ ⟨hv, k⟩ => ⟨hv, h.step k⟩
theorem rwr_put (h : Wr 109 W0 S B g w xs) (e : Ent) (y : Value) (hp : Bytes S w y e.cmd) (hr : rightB e = true) (hx : xs.length ≤ 90000000) :
    Calls Try.prog 55 #[.pointer (some ⟨g, 0, none⟩), .agg #[.int .i64 e.kind, .int .i64 e.term, y]] w fun r w' => (∃ v, r = .returned v) ∧ Wr 109 W0 S B g w' (xs ++ encE e) :=
  (qput_ok S B g xs e y w h.1 h.lt hp hr hx).mono fun _ _ ⟨hv, k⟩ => ⟨hv, h.step k⟩
theorem rwr_end (h : Wr 109 W0 S B g w xs) (hx : xs.length ≤ 1000000000) :
    Calls Try.prog 56 #[.pointer (some ⟨g, 0, none⟩)] w fun e w' => ∃ v, e = .returned (.tuple #[v, .int .i64 0]) ∧ w'.ownsRow w.heap.size 5 1 v xs.length (byteCells xs) ∧ Below w.heap.size w w' := rwend_ok B g xs w h.at_ hx
end

/-- A message as bytes, ahead of its sum; and with it. -/
def encHead (m : Msg) : List UInt8 :=
  be 1 202 ++ be 1 m.kind.toNat ++ be 1 m.src.toNat ++ be 1 m.dst.toNat ++ be 1 (if m.yes then 1 else 0) ++ be 6 m.term.toNat ++ be 6 m.at_.toNat ++ be 6 m.atTerm.toNat ++ be 6 m.commit.toNat ++ be 6 m.round.toNat ++ be 2 m.l.length
def encEs (l : List Ent) : List UInt8 := l.flatMap encE
def encM (m : Msg) : List UInt8 := encHead m ++ encEs m.l ++ be 4 m.data.length ++ m.data
def packM (m : Msg) : List UInt8 × Int := if longB m = true then ([], 3) else if msgOK m = true then (encM m ++ be 4 (crcSum (encM m)), 0) else ([], 1)
theorem encEs_snoc (l : List Ent) (e : Ent) : encEs (l ++ [e]) = encEs l ++ encE e := by simp [encEs]
theorem encEs_length (l : List Ent) : (encEs l).length = entsSize l := by
  induction l with
  | nil => rfl
  | cons e l ih =>
    have h1 : encEs (e :: l) = encE e ++ encEs l := rfl
    have h2 : entsSize (e :: l) = 9 + e.cmd.length + entsSize l := rfl
    rw [h1, h2, List.length_append, encE_length, ih]
theorem encHead_length (m : Msg) : (encHead m).length = 37 := by simp [encHead, be_length]
theorem encM_length (m : Msg) : (encM m).length + 4 = msgSize m := by
  unfold encM msgSize
  rw [List.length_append, List.length_append, List.length_append, encEs_length, encHead_length, be_length]
  omega
theorem msgOK_facts {m : Msg} (h : msgOK m = true) :
    (0 ≤ m.term ∧ m.term ≤ 1099511627776) ∧ (0 ≤ m.at_ ∧ m.at_ ≤ 1099511627776) ∧ (0 ≤ m.atTerm ∧ m.atTerm ≤ 1099511627776) ∧ (0 ≤ m.commit ∧ m.commit ≤ 1099511627776) ∧ (0 ≤ m.round ∧ m.round ≤ 1099511627776) ∧
    (0 ≤ m.kind ∧ m.kind ≤ 255) ∧ (0 ≤ m.src ∧ m.src ≤ 255) ∧ (0 ≤ m.dst ∧ m.dst ≤ 255) ∧ ∀ e ∈ m.l, rightB e = true := by
  simp only [msgOK, mayB, out255, Bool.and_eq_true, decide_eq_true_eq, Bool.not_eq_true', Bool.or_eq_false_iff, decide_eq_false_iff_not, List.all_eq_true] at h
  obtain ⟨⟨⟨⟨⟨⟨h1, h2⟩, h3⟩, h4⟩, h5⟩, h6⟩, h7⟩ := h
  exact ⟨h1, h2, h3, h4, h5, by omega, by omega, by omega, h7⟩
theorem longB_facts {m : Msg} (h : longB m = false) : m.l.length ≤ 4096 ∧ m.data.length ≤ 65536 ∧ msgSize m ≤ 65536 := by
  simp only [longB, Bool.or_eq_false_iff, decide_eq_false_iff_not] at h
  omega
end Go.Proofs.Ytoaoldhajpbenaa

namespace Go.Proofs.Ytoaoldhajpbenaa
open Go.RowKit

theorem packMsg_long {S : Nat → Prop} (m : Msg) (vl vd : Value) (w : World) (hm : MsgAt S w m vl vd) (hf : Fine m) (hL : longB m = true) :
    Calls Try.prog 33 #[.agg (msgCells m vl vd).toArray] w fun e w' => e = .returned (.tuple #[.slice none 0 0, .int .i64 3]) ∧ Below w.heap.size w w' := by
  have hb0 := box_below w (.cells (msgCells m vl vd).toArray 65)
  have hlong := long_any m vl vd _ (hm.keep hb0) hf
  rw [hL] at hlong
  obtain ⟨A, cA, rfl⟩ := hm.1.slice
  obtain ⟨B, cB, rfl⟩ := hm.2.1.slice
  obtain ⟨k0, k1, k2, k3, k4, k5, k6, k7, yes, l, data⟩ := m
  simp only [msgCells] at hb0 hlong ⊢
  have HB := Lib.hid hb0
  have HL := Lib.hid hlong
  clear hm hf hL hb0 hlong
  go_enter Try.func33, Try.ntmps33
  go_wp2_with (go_at_call 63; refine HL.out.mono ?_; rintro _ w1 ⟨rfl, hb⟩)
  go_ret2
  exact ⟨rfl, below_then HB.out hb⟩

set_option maxRecDepth 100000 in
set_option maxHeartbeats 2000000 in
theorem packMsg_no {S : Nat → Prop} (m : Msg) (vl vd : Value) (w : World) (hm : MsgAt S w m vl vd) (hf : Fine m) (hL : longB m = false) (hO : msgOK m = false) :
    Calls Try.prog 33 #[.agg (msgCells m vl vd).toArray] w fun e w' => e = .returned (.tuple #[.slice none 0 0, .int .i64 1]) ∧ Below w.heap.size w w' := by
  have hb0 := box_below w (.cells (msgCells m vl vd).toArray 65)
  have hE := blk_new w (.cells (msgCells m vl vd).toArray 65)
  have hlong := long_any m vl vd _ (hm.keep hb0) hf
  rw [hL] at hlong
  have hfit := fun W (hb : Below w.heap.size w W) => mfits_any m vl vd W (hm.keep hb)
  rw [hO] at hfit
  obtain ⟨A, cA, rfl⟩ := hm.1.slice
  obtain ⟨B, cB, rfl⟩ := hm.2.1.slice
  obtain ⟨k0, k1, k2, k3, k4, k5, k6, k7, yes, l, data⟩ := m
  simp only [msgCells] at hb0 hlong hfit hE ⊢
  have HB := Lib.hid hb0
  have HL := Lib.hid hlong
  have HF := Lib.hid hfit
  have HE := Lib.hid hE
  clear hm hf hL hO hb0 hlong hfit hE
  go_enter Try.func33, Try.ntmps33
  go_wp2_with fail
  refine HL.out.mono ?_
  rintro _ w1 ⟨rfl, hb⟩
  obtain ⟨⟨d0, d1, d2, d3, d4, d5, d6, d7, d8, d9, d10⟩, -⟩ := cells11 (blk_keep hb HE.out)
  have HF1 := Lib.hid (HF.out w1 (below_then HB.out hb))
  have HB1 := Lib.hid (below_then HB.out hb)
  clear hb
  go_wp2_with fail
  refine HF1.out.mono ?_
  rintro _ w2 ⟨rfl, hb⟩
  go_wp2_with fail
  go_ret2
  exact ⟨rfl, below_then HB1.out hb⟩
end Go.Proofs.Ytoaoldhajpbenaa

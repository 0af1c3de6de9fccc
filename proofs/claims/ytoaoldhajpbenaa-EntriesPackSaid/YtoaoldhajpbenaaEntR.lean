/- 'Runs': an iterator over where the terms begin; the list that the statements make of it. No statement is proved here. -/
import Derived.RangeFuncNested
import Derived.RangeFuncBound
import Derived.RangeFuncCalls
import Derived.RangeFuncLeaves
import Derived.RangeFuncBox
import Derived.Shelf.Abstract
import Derived.Shelf.RegionOpen
import Derived.Sort.QuietIn
import Derived.OwnWalkIn
import Derived.TacticsInMore
import Derived.LoopNIn
import Derived.LoopIn
import Derived.Test.YtoaoldhajpbenaaEntM
import Derived.Test.YtoaoldhajpbenaaEntB
namespace Go.Proofs.Ytoaoldhajpbenaa
open Go.RowKit Go.Shelf
attribute [local go_sem] Oper.semAt_some

/-- Where runs begin, and their terms. -/
def runsOf (rs : List (Int × List Ent)) : List (Int × Int) := rs.map fun r => (r.1, headTerm r.2)
theorem runsOf_take (rs : List (Int × List Ent)) (k : Nat) (h : k < rs.length) : runsOf (rs.take (k + 1)) = runsOf (rs.take k) ++ [(rs[k].1, headTerm rs[k].2)] := by
  simp only [runsOf]
  rw [List.take_succ_eq_append_getElem h, List.map_append]
  rfl
theorem runsOf_length (rs : List (Int × List Ent)) : (runsOf rs).length = rs.length := by simp [runsOf]

theorem grown_alloc_drew (w : World) (o : Obj) : w.grownBy (w.alloc o).drew none := by
  have h := World.grownBy_alloc w o none
  exact ⟨h.os, h.tape, h.output, h.size, h.block⟩

theorem grown_alloc_drewN (w : World) (o : Obj) (n : Nat) : w.grownBy ((w.alloc o).drewN n) none := by
  have h := World.grownBy_alloc w o none
  exact ⟨h.os, h.tape, h.output, h.size, h.block⟩

set_option maxRecDepth 100000 in
set_option maxHeartbeats 2000000 in
theorem runs1_in (n : Nat) (hn : 1 ≤ n) (l Bg n₀ : Nat) (p : Value) (g : Lg) (hg : g.Good) (J Jx : List (Int × Int) → World → Prop)
    (hY : ∀ pre x W, J pre W → pre.length < g.rs.length → YieldAt Fence.wide (n - 1) Try.prog l #[.int .i64 x.1, .int .i64 x.2] W fun e W' =>
      (e = .returned (.bool true) ∧ J (pre ++ [x]) W' ∧ Below n₀ W W') ∨ (e = .returned (.bool false) ∧ Jx (pre ++ [x]) W'))
    (W : World) (hJ : AbidesFrom W.heap.size J) (hn₀ : n₀ ≤ W.heap.size) (hBg : W.cell? ⟨Bg, 0, none⟩ = some p) (hL : LogAt (· < n₀) W p g.parts) (h0 : J [] W) :
    CallsIn Fence.wide n Try.prog 83 #[.func (.yield l) #[] #[], .pointer (some ⟨Bg, 0, none⟩)] W fun e W' => (∃ v, e = .returned v) ∧
      ((∃ ys, ys = runsOf g.rs ∧ J ys W') ∨ (∃ pre, True ∧ Jx pre W')) := by
  obtain ⟨b, sv, vs, rfl, hSb, hcell, hrow, hpc⟩ := hL
  obtain ⟨pb, po, pc, rfl, hpn, hpcm, hSp, hlt, hcells⟩ := hrow.form (by simp [Lg.parts])
  have hlen := g.parts_length
  have hple := hg.parts_le
  unfold maxLen at hpcm
  refine callsIn_of_wp Try.func83 rfl trivial ?_ rfl
  simp only [Try.ntmps83, List.size_toArray, List.length_cons, List.length_nil, Nat.reduceAdd, Nat.reduceSub, Array.replicate_succ, Array.replicate_zero, List.push_toArray, List.append_toArray, List.nil_append, List.cons_append]
  have HC := Lib.hid hcells
  have HP := Lib.hid hpc
  have HY := Lib.hid hY
  have HJ := Lib.hid hJ
  have HL := Lib.hid hlen
  clear hcells hpc hrow hY hJ hlen
  gi_wp2
  gi_loopw [14] (fun i wr => ∃ k : Nat, k ≤ g.parts.length ∧ i = .int .i64 k ∧ J (runsOf (g.rs.take (k - 1))) wr ∧ Below n₀ W wr)
    (fun i _ => g.parts.length - (intOf i).toNat)
  case atStart => exact ⟨0, Nat.zero_le _, rfl, by simpa [runsOf] using h0, Below.refl _ _⟩
  case round =>
    obtain ⟨k, hk, rfl, hJs, hnx⟩ := hrel
    have hsz := hnx.size
    have hsz2 : n₀ ≤ wr.heap.size := by omega
    by_cases hlt' : k < g.parts.length
    · obtain ⟨v, hv, hpv⟩ := HP.out.at k hlt'
      have hcv : wr.cell? ⟨pb, po + k, none⟩ = some v := (hnx.cell (p := ⟨pb, po + k, none⟩) hSp).trans (HC.out k v hv)
      have Hv := Lib.hid hv
      clear hv
      have HJ0 := hJs
      cases k with
      | zero =>
        rw [g.parts_zero] at hpv
        obtain rfl := hpv
        rw [Nat.add_zero] at hcv
        have hmx : Try.prog.follows .mixedOrders = true := by kernel_rfl
        gi_wp2
        refine wpIn_region_quiet_lit rfl (by kernel_rfl) (by kernel_rfl) ?_
        repeat (gi_big_quiet_step (fail))
        refine BigFrame.wpQuietIn_skip (fun _ _ _ _ => trivial) rfl ?_
        go_simp
        repeat (gi_big_quiet_step (fail))
        refine wpQuietIn_nil ?_
        intro nq
        all_goals gi_wp2
        all_goals go_roundw
        case rel =>
          exact ⟨1, by omega, rfl, HJ.out _ _ _ none (by exact HJ0) (grown_alloc_drewN _ _ _) (fun r e => by cases e), hnx.trans (below_drewN ((Below.refl n₀ wr).alloc hsz2 _) nq)⟩
        case measure => simp [intOf]; omega
      | succ j =>
        have hj : j < g.rs.length := by have := HL.out; omega
        rw [g.parts_succ j hj] at hpv
        obtain ⟨k1, k2, k3, k4⟩ := hg.run_ok j hj
        obtain ⟨sl, rfl, cs, hrl, hec⟩ := hpv
        obtain ⟨rb, ro, rc, rfl, hrn, hrc, hSr, hrb, hrcell⟩ := hrl.form k3
        obtain ⟨cv, hc0, hc1, hc2, -⟩ := hec.at 0 k3
        have hterm : wr.cell? ⟨rb, ro + 1, none⟩ = some (.int .i64 (g.rs[j].2[0]'k3).term) := by
          have := (hnx.cell (p := ⟨rb, ro + (0 * 3 + 1), none⟩) hSr).trans (hrcell _ _ hc1)
          simpa using this
        rw [← head_term k3] at hterm
        have hmx : Try.prog.follows .mixedOrders = true := by kernel_rfl
        have hrl0 : (0 : Int) < (g.rs[j].2.length : Int) := by omega
        clear hc0 hc1 hc2 hrcell hec hrl
        have hJ1 := HJ.out _ _ _ none hJs (grown_alloc_drew wr (.cells #[.int .i64 g.rs[j].1, .slice (some ⟨rb, ro, none⟩) g.rs[j].2.length rc] 92)) (fun r e => by cases e)
        obtain ⟨fn, tmps, assign, body, hy, hR⟩ := HY.out _ (g.rs[j].1, headTerm g.rs[j].2) _ hJ1 (by rw [runsOf_length]; simp; omega)
        dsimp only at hy
        have HR := Lib.hid (hR.mono (R' := fun e W' => ∃ bb : Bool, e = .returned (.bool bb) ∧ (bb = true → J (runsOf (g.rs.take (j + 1 - 1)) ++ [(g.rs[j].1, headTerm g.rs[j].2)]) W' ∧ Below n₀ _ W') ∧ (bb = false → Jx (runsOf (g.rs.take (j + 1 - 1)) ++ [(g.rs[j].1, headTerm g.rs[j].2)]) W')) (by
          rintro e W' (⟨rfl, h1, h2⟩ | ⟨rfl, h1⟩)
          · exact ⟨true, rfl, fun _ => ⟨h1, h2⟩, (fun h => by cases h)⟩
          · exact ⟨false, rfl, (fun h => by cases h), fun _ => h1⟩))
        clear hR
        have hterm' := fun o => cell_keep (box_below wr o) hterm
        gi_wp2
        gi_region_with_o (refine HR.out.mono ?_; rintro e W3 ⟨bb, rfl, hT, hF'⟩)
        all_goals
          cases bb
          · have hx := hF' rfl
            gi_wp2
            refine bodyPost_ret (results_none rfl _ _ _) rfl ?_
            exact ⟨⟨_, rfl⟩, .inr ⟨_, hx⟩⟩
          · obtain ⟨hx, hy3⟩ := hT rfl
            gi_wp2
            go_roundw
            case rel =>
              refine ⟨j + 2, by omega, by simp [Int.add_assoc], ?_, ?_⟩
              · have e := runsOf_take g.rs j hj
                rw [show j + 2 - 1 = j + 1 from rfl, e]
                exact hx
              · exact hnx.trans ((below_drewN ((Below.refl n₀ wr).alloc hsz2 _) 1).trans hy3)
            case measure => simp [intOf]; omega
    · obtain rfl : k = g.parts.length := by omega
      gi_wp2
      go_end0
      refine ⟨⟨_, rfl⟩, .inl ⟨_, rfl, ?_⟩⟩
      have : g.parts.length - 1 = g.rs.length := by have := HL.out; omega
      rw [this, List.take_length] at hJs
      exact hJs
end Go.Proofs.Ytoaoldhajpbenaa

/- 'slices.Backward' over the parts of a log: an iterator, its contract. No statement is proved here. -/
import Derived.RangeFuncNested
import Derived.RangeFuncBound
import Derived.RangeFuncCalls
import Derived.RangeFuncLeaves
import Derived.RangeFuncBox
import Derived.Shelf.Abstract
import Derived.Shelf.RegionOpen
import Derived.Sort.QuietIn
import Derived.OwnWalkIn
import Derived.TacticsInMore
import Derived.LoopNIn
import Derived.LoopIn
import Derived.Test.YtoaoldhajpbenaaEntT
namespace Go.Proofs.Ytoaoldhajpbenaa
open Go.RowKit Go.Shelf
attribute [local go_sem] Oper.semAt_some

/-- The last k of len places, the last one first. -/
def downTo (len k : Nat) : List Nat := (List.range k).map fun q => len - 1 - q
theorem downTo_succ (len k : Nat) : downTo len (k + 1) = downTo len k ++ [len - 1 - k] := by simp [downTo, List.range_succ]

theorem backward_in (n : Nat) (A : Option Addr) (k c : Nat) (w : World) :
    CallsIn Fence.wide n Try.prog 85 #[.slice A k c] w fun e w' => e = .returned (.func (.func 101) #[] #[.pointer (some ⟨w.heap.size, 0, none⟩)]) ∧ w' = w.alloc (.cells #[.slice A k c] 86) := by
  refine callsIn_of_wp Try.func85 rfl trivial ?_ rfl
  simp only [Try.ntmps85, List.size_toArray, List.length_cons, List.length_nil, Nat.reduceAdd, Nat.reduceSub, Array.replicate_succ, Array.replicate_zero, List.push_toArray, List.append_toArray, List.nil_append, List.cons_append]
  gi_wp2
  go_ret
  exact ⟨rfl, rfl⟩

set_option maxRecDepth 100000 in
set_option maxHeartbeats 2000000 in
theorem backward1_in (n : Nat) (hn : 1 ≤ n) (l Bg n₀ pb po len pc : Nat) (fv : Nat → Value) (hpc : len ≤ pc) (hpm : pc ≤ maxLen) (hB0 : Bg < n₀) (hp0 : pb < n₀) (J Jx : List (Fin len) → World → Prop)
    (hY : ∀ pre x W, J pre W → pre.length < len → YieldAt Fence.wide (n - 1) Try.prog l #[.int .i64 x.1, fv x.1] W fun e W' =>
      (e = .returned (.bool true) ∧ J (pre ++ [x]) W' ∧ Below n₀ W W') ∨ (e = .returned (.bool false) ∧ Jx (pre ++ [x]) W'))
    (W : World) (hJ : AbidesFrom W.heap.size J) (hn₀ : n₀ ≤ W.heap.size) (hBg : W.cell? ⟨Bg, 0, none⟩ = some (.slice (some ⟨pb, po, none⟩) len pc)) (hc : ∀ i, i < len → W.cell? ⟨pb, po + i, none⟩ = some (fv i)) (h0 : J [] W) :
    CallsIn Fence.wide n Try.prog 101 #[.func (.yield l) #[] #[], .pointer (some ⟨Bg, 0, none⟩)] W fun e W' => (∃ v, e = .returned v) ∧
      ((∃ ys : List (Fin len), ys.map (·.1) = downTo len len ∧ J ys W') ∨ (∃ pre : List (Fin len), (∃ k, k ≤ len ∧ pre.map (·.1) = downTo len k) ∧ Jx pre W')) := by
  unfold maxLen at hpm
  refine callsIn_of_wp Try.func101 rfl trivial ?_ rfl
  simp only [Try.ntmps101, List.size_toArray, List.length_cons, List.length_nil, Nat.reduceAdd, Nat.reduceSub, Array.replicate_succ, Array.replicate_zero, List.push_toArray, List.append_toArray, List.nil_append, List.cons_append]
  have HC := Lib.hid hc
  have HY := Lib.hid hY
  have HJ := Lib.hid hJ
  clear hc hY hJ
  gi_wp2
  gi_loopw [3] (fun i wr => ∃ (k : Nat) (pre : List (Fin len)), k ≤ len ∧ i = .int .i64 ((len : Int) - 1 - k) ∧ pre.map (·.1) = downTo len k ∧ J pre wr ∧ Below n₀ W wr)
    (fun i _ => (intOf i + 1).toNat)
  case atStart => exact ⟨0, [], Nat.zero_le _, by simp, by simp [downTo], h0, Below.refl _ _⟩
  case round =>
    obtain ⟨k, pre, hk, rfl, hpre, hJs, hnx⟩ := hrel
    have hsz := hnx.size
    have hbg : wr.cell? ⟨Bg, 0, none⟩ = some (.slice (some ⟨pb, po, none⟩) len pc) := (hnx.cell (p := ⟨Bg, 0, none⟩) hB0).trans hBg
    have Hpre := Lib.hid hpre
    clear hpre
    by_cases hlt' : k < len
    · have hpl : pre.length < len := by
        have := congrArg List.length Hpre.out
        simp [downTo] at this
        omega
      have hx : len - 1 - k < len := by omega
      obtain ⟨i, hi⟩ : ∃ i, len - 1 - k = i := ⟨_, rfl⟩
      have hii : (len : Int) - 1 - k = i := by omega
      have hil : i < len := by omega
      have hil2 : (i : Int) < (len : Int) := by omega
      have hcv : wr.cell? ⟨pb, po + i, none⟩ = some (fv i) := (hnx.cell (p := ⟨pb, po + i, none⟩) hp0).trans (HC.out i hil)
      obtain ⟨fn, tmps, assign, body, hy, hR⟩ := HY.out pre ⟨i, hil⟩ wr hJs hpl
      dsimp only at hy
      have HR := Lib.hid hR
      have Hi := Lib.hid hi
      rw [hii]
      clear hR hi hii hx
      gi_wp2
      refine HR.out.mono ?_
      rintro e W3 (⟨rfl, hJ3, hk3⟩ | ⟨rfl, hJx3⟩)
      · have hdn : (pre ++ [⟨i, hil⟩] : List (Fin len)).map (·.1) = downTo len (k + 1) := by rw [downTo_succ, List.map_append, Hpre.out, Hi.out]; rfl
        have Hdn := Lib.hid hdn
        clear hdn
        gi_wp2
        go_roundw
        case rel =>
          have hi' := Hi.out
          have e : Value.int .i64 ((i : Int) - 1) = .int .i64 ((len : Int) - 1 - ((k + 1 : Nat) : Int)) := congrArg (Value.int .i64) (by omega)
          exact ⟨k + 1, pre ++ [⟨i, hil⟩], hlt', e, Hdn.out, hJ3, hnx.trans hk3⟩
        case measure => simp [intOf]
      · gi_wp2
        refine bodyPost_ret (results_none rfl _ _ _) rfl ?_
        exact ⟨⟨_, rfl⟩, .inr ⟨pre ++ [⟨i, hil⟩], ⟨k + 1, hlt', by rw [downTo_succ, List.map_append, Hpre.out, Hi.out]; rfl⟩, hJx3⟩⟩
    · obtain rfl : k = len := by omega
      gi_wp2
      go_end0
      exact ⟨⟨_, rfl⟩, .inl ⟨pre, Hpre.out, hJs⟩⟩
end Go.Proofs.Ytoaoldhajpbenaa

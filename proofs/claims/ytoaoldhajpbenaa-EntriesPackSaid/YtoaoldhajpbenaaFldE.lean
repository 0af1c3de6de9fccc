/- Room for bytes, and rows put end to end. No statement is proved here. -/
import Derived.Test.YtoaoldhajpbenaaFldB
import Derived.Lib.AppendZerosOnto
import Derived.Lib.SliceRun
namespace Go.Proofs.Ytoaoldhajpbenaa
open Go.RowKit

theorem zero_size (n : Nat) : (Builtin.zeroCells #[.int .u8 0] n).size = n := by
  simp [Builtin.zeroCells]

theorem below_drew1 {B : Nat} {a w : World} (h : Below B a w) : Below B a w.drew := ⟨h.os, h.tape, h.output, h.size, h.block⟩

theorem grow_zero (w : World) :
    Calls Try.prog 110 #[.slice none 0 0, .int .i64 0] w fun e w' => e = .returned (.slice none 0 0) ∧ w = w' := by
  go_enter Try.func110, Try.ntmps110
  go_wp2
  go_ret
  exact ⟨rfl, rfl⟩

set_option maxRecDepth 100000 in
set_option maxHeartbeats 2000000 in
theorem grow_some (n : Int) (w : World) (h0 : 0 < n) (h : n ≤ 1000000000) :
    Calls Try.prog 110 #[.slice none 0 0, .int .i64 n] w fun e w' => ∃ v, e = .returned v ∧ w'.ownsRow w.heap.size 5 1 v 0 [] ∧ Below w.heap.size w w' := by
  obtain ⟨i0, hi, hz0, hz1, hz2⟩ := info_parts infoU8
  obtain ⟨k, rfl⟩ := Int.eq_ofNat_of_zero_le (Int.le_of_lt h0)
  have hk : 0 < k := by omega
  have hrz : ∀ ty, (Builtin.append_ #[31, 3] ty #[.slice none 0 0, .int .i64 (k : Int)]).run Try.prog w =
      .ok (.slice (some ⟨w.heap.size, 0, none⟩) k (grownCap w k 0 5)) (w.drew.alloc (.cells (Builtin.zeroCells #[.int .u8 0] k ++ Builtin.zeroCells #[.int .u8 0] (grownCap w k 0 5 - k)) 5)) := fun ty => by
    have hh := Lib.run_append_grow_zeros w 31 3 ty 5 i0 (.int .u8 0) .i64 .i64 Try.underlying31 Try.underlying3 hi hz0 none 0 0 [] (run_firstCells_none _ _ _ _ _) k hk (by omega) (by omega) (by omega) (by rw [hz2]; omega)
      (growslice_fits (by omega) (by rw [hz2]; omega))
    simpa [Value.cells] using hh
  have hGn := grownCap_ge w k 0 5
  have hGm := grownCap_le_maxLen w k 0 5 (by unfold maxLen; omega)
  obtain ⟨G, hG⟩ : ∃ G, G = grownCap w k 0 5 := ⟨_, rfl⟩
  rw [← hG] at hrz hGn hGm
  have hG63 : G ≤ 9223372036854775807 := by unfold maxLen at hGm; omega
  have Hm := Lib.hid hGm
  obtain ⟨n, hn⟩ : ∃ n : Int, n = (k : Int) := ⟨_, rfl⟩
  rw [← hn] at h0 h hrz ⊢
  clear hG hGm hi hz0 hz1 hz2
  have Hn := Lib.hid hn
  clear hn
  have h1 : ¬ (n < 0) := by omega
  go_enter Try.func110, Try.ntmps110
  go_wp2_with (at_builtin; refine Lib.wpList_append_run _ rfl _ _ _ _ rfl _ _ rfl rfl _ _ (hrz _) ?_)
  all_goals go_ret
  all_goals refine ⟨_, rfl, ⟨rfl, .inr ⟨w.heap.size, G, _, rfl, Nat.le_refl _, heap_alloc_new _ _, Nat.zero_le _, Hm.out, ?_, by simp⟩⟩, below_drew1 (box_below _ _)⟩
  all_goals (simp only [Array.size_append, zero_size]; omega)

/-- Room at nil: a row of no bytes. -/
theorem grow_nil (n : Int) (w : World) (h0 : 0 ≤ n) (h : n ≤ 1000000000) :
    Calls Try.prog 110 #[.slice none 0 0, .int .i64 n] w fun e w' => ∃ v, e = .returned v ∧ w'.ownsRow w.heap.size 5 1 v 0 [] ∧ Below w.heap.size w w' := by
  by_cases hn : n = 0
  · subst hn
    refine (grow_zero w).mono ?_
    rintro e _ ⟨rfl, rfl⟩
    exact ⟨_, rfl, World.ownsRow_nil _ _ _ _, Below.refl _ _⟩
  · exact grow_some n w (by omega) h

/-- Bytes that end a row of the call's own: from whatever slice, nil too. -/
theorem run_append_bytes {S : Nat → Prop} (w : World) (B : Nat) (ty : TypeId) (v : Value) (n : Nat) (xs : List Value) (hown : w.ownsRow B 5 1 v n xs) (y : Value) (ys : List UInt8) (hy : Bytes S w y ys)
    (h47 : n + ys.length ≤ 140737488355328) (hB : B ≤ w.heap.size) :
    ∃ v' w', (Builtin.append_ #[31, 31] ty #[v, y]).run Try.prog w = .ok v' w' ∧ w'.ownsRow B 5 1 v' (n + ys.length) (xs ++ byteCells ys) ∧ w.grownBy w' v.ownBlock ∧ (v'.ownBlock = v.ownBlock ∨ v'.ownBlock = some w.heap.size) := by
  obtain ⟨i0, hi, hz0, hz1, hz2⟩ := info_parts infoU8
  have key : ∀ (a : Addr) (c : Nat), y = .slice (some a) ys.length c → (∀ j u, (byteCells ys)[j]? = some u → w.cell? (a.add j) = some u) →
      ∃ v' w', (Builtin.append_ #[31, 31] ty #[v, y]).run Try.prog w = .ok v' w' ∧ w'.ownsRow B 5 1 v' (n + ys.length) (xs ++ byteCells ys) ∧ w.grownBy w' v.ownBlock ∧ (v'.ownBlock = v.ownBlock ∨ v'.ownBlock = some w.heap.size) := by
    intro a c hya hcell
    subst hya
    obtain ⟨v', w', hr, h2, h3, _, h5⟩ := run_append_own_at (P := Try.prog) w B 31 ty 5 i0 (.int .u8 0) 1 1 Try.underlying31 hi hz0 hz1 hz2 rfl (by decide) v n xs hown a ys.length c (byteCells ys) (by simp [byteCells_length]) hcell (byteCells_one ys) (by unfold maxLen; omega) (by omega) hB
    exact ⟨v', w', hr, h2, h3, h5⟩
  rcases hy.2 with ⟨h0, rfl | ⟨a, c, hya⟩⟩ | ⟨b, o, c, hya, _, _, _, _, hcell⟩
  · obtain rfl : ys = [] := List.eq_nil_of_length_eq_zero h0
    refine ⟨v, w, ?_, by simpa [byteCells] using hown, ⟨rfl, rfl, rfl, Nat.le_refl _, fun _ _ _ => rfl⟩, .inl rfl⟩
    rcases hown.2 with ⟨rfl, rfl⟩ | ⟨g, cap, cur, rfl, hbg, hg, hnc, hcm, hcs, htake⟩
    · simp [Builtin.append_, run_underlying Try.underlying31, Go.sizeOf, typeInfo, hi, Builtin.lenOf, Builtin.firstCells, loadCells, loadCellsFrom]
    · simp [Builtin.append_, run_underlying Try.underlying31, Go.sizeOf, typeInfo, hi, Builtin.lenOf, Builtin.firstCells, loadCells, loadCellsFrom, hnc, storeCells]
  · refine key a c (by rw [h0]; exact hya) fun j u hu => ?_
    obtain rfl : ys = [] := List.eq_nil_of_length_eq_zero h0
    simp [byteCells] at hu
  · exact key _ c hya fun j u hu => by rw [add_plain]; exact hcell j u hu

theorem wpList_append_bytes {S : Nat → Prop} {ops : Array Oper} {rest : List Oper} {o : Oper} {a : Act} {Q : Exit → Act → World → Prop} (w : World) (hgd : o.guard = none) (s x : Operand)
    (ho : o.op = .call { callee := .builtin .append, args := #[s, x], argTypes := #[31, 31] }) (vs vx : Value) (hs : a.eval s = vs) (hx : a.eval x = vx)
    (B : Nat) (n : Nat) (xs : List Value) (hown : w.ownsRow B 5 1 vs n xs) (ys : List UInt8) (hy : Bytes S w vx ys) (h47 : n + ys.length ≤ 140737488355328) (hB : B ≤ w.heap.size)
    (h : ∀ v' w', w'.ownsRow B 5 1 v' (n + ys.length) (xs ++ byteCells ys) → w.grownBy w' vs.ownBlock → (v'.ownBlock = vs.ownBlock ∨ v'.ownBlock = some w.heap.size) → wpList Try.prog ops Q rest (a.put o.dst v') w') : wpList Try.prog ops Q (o :: rest) a w := by
  obtain ⟨v', w', hr, h1, h2, h3⟩ := run_append_bytes w B o.type vs n xs hown vx ys hy h47 hB
  exact Lib.wpList_append_run w hgd s x _ _ ho vs vx hs hx v' w' hr (h v' w' h1 h2 h3)
end Go.Proofs.Ytoaoldhajpbenaa

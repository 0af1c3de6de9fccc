/- Pairs from one package to another, lists of any length; one list behind another. No statement is proved here. -/
import Derived.Test.YtmehjcimohhopaaDoorTxpE
namespace Go.Proofs.YtmehjcimohhopaaDoor
open Go.RowKit

set_option maxRecDepth 100000 in
set_option maxHeartbeats 1000000 in
theorem given_big {S : Nat → Prop} (va : Value) (l : List Pr) (w : World) (hl : PairsAt S w va l) (h100 : l.length ≤ 4398046511103) :
    Calls Tryd.prog 19 #[va] w fun e w' => ∃ v, e = .returned v ∧ PairsAt (w.heap.size ≤ ·) w' v l ∧ Below w.heap.size w w' := by
  obtain ⟨A, cA, rfl⟩ := hl.slice
  have Hl := Lib.hid hl
  have H100 := Lib.hid h100
  clear hl h100
  have hn : (l.length : Int) ≤ 9223372036854775806 := by have := H100.out; omega
  go_enter Tryd.func19, Tryd.ntmps19
  go_wp2_with fail
  go_loopw [3, 4] (fun vo i wr => ∃ j : Nat, j ≤ l.length ∧ i = .int .i64 j ∧ Hid (wr.ownsRow w.heap.size 46 2 vo j (pairCells (l.take j)) ∧ Below w.heap.size w wr)) (fun _ i _ => l.length - (intOf i).toNat)
  case atStart => exact ⟨0, Nat.zero_le _, rfl, Lib.hid ⟨World.ownsRow_nil _ _ _ _, Below.refl _ _⟩⟩
  case round =>
    obtain ⟨j, hj, rfl, HK⟩ := hrel
    by_cases hlt : j < l.length
    · have hlt3 : (j : Int) < l.length := by omega
      obtain ⟨ab, ao, ac, hv1, hn1, hc1, -, hab, hcell⟩ := (RowAt.form Hl.out (by omega))
      injection hv1 with hv1 _ hv3
      subst hv1 hv3
      obtain ⟨p0, p1⟩ := pairCells_at l j hlt
      have hpt := pairCells_take l j hlt
      obtain ⟨⟨kk, vv⟩, hkv⟩ : ∃ p, l[j] = p := ⟨_, rfl⟩
      rw [hkv] at p0 p1 hpt
      have x0 := cell_keep HK.out.2 (hcell _ _ p0)
      have x1 := cell_keep HK.out.2 (hcell _ _ p1)
      rw [← Nat.add_assoc] at x1
      have Hac := Lib.hid (And.intro hc1 hn1)
      have Hpt := Lib.hid hpt
      clear hcell p0 p1 hkv hc1 hn1 hab hpt
      obtain ⟨i0, hi, hz0, hz1, hz2⟩ := info_parts infoPair
      have h5 := Lib.hid (show j + 1 ≤ maxLen by have := H100.out; simp [maxLen]; omega)
      have h6 := Lib.hid (show (j + 1) * 32 ≤ 140737488355328 by have := H100.out; omega)
      have hone : ∀ u ∈ ([.string kk, .string vv] : List Value), u.oneCell' = true := by simp [Value.oneCell']
      have Hone := Lib.hid hone
      clear hone
      go_wp2_with fail
      go_region_law (
        refine step_append_lies _ rfl (.tmp 11) (.tmp 23) 35 rfl w.heap.size 46 i0 (.agg #[.string ⟨#[]⟩, .string ⟨#[]⟩]) 2 32 Tryd.underlying35 hi hz0 hz1 hz2 rfl (by decide) u3 j (pairCells (l.take j)) rfl (World.ownsRow.drew (World.ownsRow.alloc HK.out.1 _)) ⟨wr.heap.size, 0, none⟩ 1 1 [.string kk, .string vv] rfl rfl (World.news_of_block (blk_new _ _)) Hone.out (by decide) h5.out h6.out (by have := HK.out.2.size; simp; omega) _ rfl ?_
        intro g3 cap3 w15 hown3 hg3 hat3 hlt3
        have HP := Lib.hid (And.intro hown3 hg3)
        clear hown3 hg3 hat3 hlt3)
      all_goals
        go_wp2_with fail
        go_roundw
        case rel =>
          refine ⟨j + 1, hlt, by go_num, Lib.hid ⟨?_, below_push HK.out.2 HK.out.1 (below_drew1 (box_below wr (.cells #[.string kk, .string vv] 46))) HP.out.2⟩⟩
          rw [Hpt.out]
          exact HP.out.1
        case measure => simp [intOf]; omega
    · obtain rfl : j = l.length := by omega
      have Hlt := Lib.hid hlt
      clear hlt
      have hrow := HK.out.1
      rw [List.take_length] at hrow
      have Hrow := Lib.hid hrow
      clear hrow
      go_wp2_with fail
      go_ret
      exact ⟨_, rfl, RowAt.of_own Hrow.out, HK.out.2⟩

theorem pairCells_one (l : List Pr) : ∀ u ∈ pairCells l, u.oneCell' = true := by
  intro u hu
  obtain ⟨p, -, hp⟩ := List.mem_flatMap.1 hu
  simp at hp
  rcases hp with rfl | rfl <;> simp [Value.oneCell']
theorem run_append_pairs {S : Nat → Prop} (w : World) (B : Nat) (ty : TypeId) (v : Value) (n : Nat) (xs : List Value) (hown : w.ownsRow B 47 2 v n xs) (y : Value) (ys : List Pr) (hy : PairsAt S w y ys)
    (h47 : (n + ys.length) * 32 ≤ 140737488355328) (hB : B ≤ w.heap.size) :
    ∃ v' w', (Builtin.append_ #[30, 30] ty #[v, y]).run Tryd.prog w = .ok v' w' ∧ w'.ownsRow B 47 2 v' (n + ys.length) (xs ++ pairCells ys) ∧ w.grownBy w' v.ownBlock ∧ (v'.ownBlock = v.ownBlock ∨ v'.ownBlock = some w.heap.size) := by
  obtain ⟨i0, hi, hz0, hz1, hz2⟩ := info_parts infoRPair
  have key : ∀ (a : Addr) (c : Nat), y = .slice (some a) ys.length c → (∀ j u, (pairCells ys)[j]? = some u → w.cell? (a.add j) = some u) →
      ∃ v' w', (Builtin.append_ #[30, 30] ty #[v, y]).run Tryd.prog w = .ok v' w' ∧ w'.ownsRow B 47 2 v' (n + ys.length) (xs ++ pairCells ys) ∧ w.grownBy w' v.ownBlock ∧ (v'.ownBlock = v.ownBlock ∨ v'.ownBlock = some w.heap.size) := by
    intro a c hya hcell
    subst hya
    obtain ⟨v', w', hr, h2, h3, _, h5⟩ := run_append_own_at (P := Tryd.prog) w B 30 ty 47 i0 (.agg #[.string ⟨#[]⟩, .string ⟨#[]⟩]) 2 32 Tryd.underlying30 hi hz0 hz1 hz2 rfl (by decide) v n xs hown a ys.length c (pairCells ys) (pairCells_length ys) hcell (pairCells_one ys) (by unfold maxLen; omega) (by omega) hB
    exact ⟨v', w', hr, h2, h3, h5⟩
  rcases hy.2 with ⟨h0, rfl | ⟨a, c, hya⟩⟩ | ⟨b, o, c, hya, _, _, _, _, hcell⟩
  · obtain rfl : ys = [] := List.eq_nil_of_length_eq_zero h0
    refine ⟨v, w, ?_, by simpa [pairCells] using hown, ⟨rfl, rfl, rfl, Nat.le_refl _, fun _ _ _ => rfl⟩, .inl rfl⟩
    rcases hown.2 with ⟨rfl, rfl⟩ | ⟨g, cap, cur, rfl, hbg, hg, hnc, hcm, hcs, htake⟩
    · simp [Builtin.append_, run_underlying Tryd.underlying30, Go.sizeOf, typeInfo, hi, Builtin.lenOf, Builtin.firstCells]
    · simp [Builtin.append_, run_underlying Tryd.underlying30, Go.sizeOf, typeInfo, hi, Builtin.lenOf, Builtin.firstCells, loadCells, hnc, storeCells]
  · refine key a c (by rw [h0]; exact hya) fun j u hu => ?_
    obtain rfl : ys = [] := List.eq_nil_of_length_eq_zero h0
    simp [pairCells] at hu
  · exact key _ c hya fun j u hu => by rw [add_plain]; exact hcell j u hu
theorem wpList_append_pairs {S : Nat → Prop} {ops : Array Oper} {rest : List Oper} {o : Oper} {a : Act} {Q : Exit → Act → World → Prop} (w : World) (hgd : o.guard = none) (s x : Operand)
    (ho : o.op = .call { callee := .builtin .append, args := #[s, x], argTypes := #[30, 30] }) (vs vx : Value) (hs : a.eval s = vs) (hx : a.eval x = vx)
    (B : Nat) (n : Nat) (xs : List Value) (hown : w.ownsRow B 47 2 vs n xs) (ys : List Pr) (hy : PairsAt S w vx ys) (h47 : (n + ys.length) * 32 ≤ 140737488355328) (hB : B ≤ w.heap.size)
    (h : ∀ v' w', w'.ownsRow B 47 2 v' (n + ys.length) (xs ++ pairCells ys) → w.grownBy w' vs.ownBlock → (v'.ownBlock = vs.ownBlock ∨ v'.ownBlock = some w.heap.size) → wpList Tryd.prog ops Q rest (a.put o.dst v') w') : wpList Tryd.prog ops Q (o :: rest) a w := by
  obtain ⟨v', w', hr, h1, h2, h3⟩ := run_append_pairs w B o.type vs n xs hown vx ys hy h47 hB
  exact Lib.wpList_append_run w hgd s x _ _ ho vs vx hs hx v' w' hr (h v' w' h1 h2 h3)
end Go.Proofs.YtmehjcimohhopaaDoor

/- Pairs from one package to another, walked. No statement is proved here. -/
import Derived.Test.YtmehjcimohhopaaDoorTxtQ
namespace Go.Proofs.YtmehjcimohhopaaDoor
open Go.RowKit

theorem infoRPair : (Tryd.prog.info? 47).map (fun i => (i.zero, i.size, i.bytes)) = some (some (.agg #[.string ⟨#[]⟩, .string ⟨#[]⟩]), 2, 32) := by kernel_rfl
theorem pairCells_take (l : List Pr) (j : Nat) (h : j < l.length) : pairCells (l.take (j + 1)) = pairCells (l.take j) ++ [.string l[j].1, .string l[j].2] := by
  rw [List.take_succ_eq_append_getElem h, pairCells_append]
  rfl
theorem below_push {w wr W1 W2 : World} {e : TypeId} {size n : Nat} {vo : Value} {xs : List Value} (h : Below w.heap.size w wr) (ho : wr.ownsRow w.heap.size e size vo n xs) (hb : Below wr.heap.size wr W1) (hg : W1.grownBy W2 vo.ownBlock) : Below w.heap.size w W2 :=
  (below_then h hb).grown hg (below_then h hb).size (fun k hk => own_blk_ge ho k hk)

set_option maxRecDepth 100000 in
set_option maxHeartbeats 1000000 in
theorem given_any {S : Nat → Prop} (va : Value) (l : List Pr) (w : World) (hl : PairsAt S w va l) (h100 : l.length ≤ 4096) :
    Calls Tryd.prog 19 #[va] w fun e w' => ∃ v, e = .returned v ∧ PairsAt (w.heap.size ≤ ·) w' v l ∧ Below w.heap.size w w' := by
  obtain ⟨A, cA, rfl⟩ := hl.slice
  have Hl := Lib.hid hl
  have H100 := Lib.hid h100
  have hn : (l.length : Int) ≤ 4096 := by omega
  clear hl h100
  go_enter Tryd.func19, Tryd.ntmps19
  go_wp2_with fail
  go_loopw [3, 4] (fun vo i wr => ∃ j : Nat, j ≤ l.length ∧ i = .int .i64 j ∧ Hid (wr.ownsRow w.heap.size 46 2 vo j (pairCells (l.take j)) ∧ Below w.heap.size w wr)) (fun _ i _ => l.length - (intOf i).toNat)
  case atStart => exact ⟨0, Nat.zero_le _, rfl, Lib.hid ⟨World.ownsRow_nil _ _ _ _, Below.refl _ _⟩⟩
  case round =>
    obtain ⟨j, hj, rfl, HK⟩ := hrel
    by_cases hlt : j < l.length
    · have hlt3 : (j : Int) < l.length := by omega
      obtain ⟨ab, ao, ac, hv1, hn1, hc1, -, hab, hcell⟩ := (RowAt.form Hl.out (by omega))
      injection hv1 with hv1 _ hv3
      subst hv1 hv3
      obtain ⟨p0, p1⟩ := pairCells_at l j hlt
      have hpt := pairCells_take l j hlt
      obtain ⟨⟨kk, vv⟩, hkv⟩ : ∃ p, l[j] = p := ⟨_, rfl⟩
      rw [hkv] at p0 p1 hpt
      have x0 := cell_keep HK.out.2 (hcell _ _ p0)
      have x1 := cell_keep HK.out.2 (hcell _ _ p1)
      rw [← Nat.add_assoc] at x1
      have hj4 : (j : Int) ≤ 4096 := by omega
      have Hac := Lib.hid (And.intro hc1 hn1)
      have Hpt := Lib.hid hpt
      clear hcell p0 p1 hkv hc1 hn1 hab hpt
      obtain ⟨i0, hi, hz0, hz1, hz2⟩ := info_parts infoPair
      have h5 : j + 1 ≤ maxLen := by simp [maxLen]; omega
      have h6 : (j + 1) * 32 ≤ 140737488355328 := by omega
      have hone : ∀ u ∈ ([.string kk, .string vv] : List Value), u.oneCell' = true := by simp [Value.oneCell']
      have Hone := Lib.hid hone
      clear hone
      go_wp2_with fail
      go_region_law (
        refine step_append_lies _ rfl (.tmp 11) (.tmp 23) 35 rfl w.heap.size 46 i0 (.agg #[.string ⟨#[]⟩, .string ⟨#[]⟩]) 2 32 Tryd.underlying35 hi hz0 hz1 hz2 rfl (by decide) u3 j (pairCells (l.take j)) rfl (World.ownsRow.drew (World.ownsRow.alloc HK.out.1 _)) ⟨wr.heap.size, 0, none⟩ 1 1 [.string kk, .string vv] rfl rfl (World.news_of_block (blk_new _ _)) Hone.out (by decide) h5 h6 (by have := HK.out.2.size; simp; omega) _ rfl ?_
        intro g3 cap3 w15 hown3 hg3 hat3 hlt3
        have HP := Lib.hid (And.intro hown3 hg3)
        clear hown3 hg3 hat3 hlt3)
      all_goals
        go_wp2_with fail
        go_roundw
        case rel =>
          refine ⟨j + 1, hlt, by go_num, Lib.hid ⟨?_, below_push HK.out.2 HK.out.1 (below_drew1 (box_below wr (.cells #[.string kk, .string vv] 46))) HP.out.2⟩⟩
          rw [Hpt.out]
          exact HP.out.1
        case measure => simp [intOf]; omega
    · obtain rfl : j = l.length := by omega
      have Hlt := Lib.hid hlt
      clear hlt
      have hrow := HK.out.1
      rw [List.take_length] at hrow
      have Hrow := Lib.hid hrow
      clear hrow
      go_wp2_with fail
      go_ret
      exact ⟨_, rfl, RowAt.of_own Hrow.out, HK.out.2⟩

set_option maxRecDepth 100000 in
set_option maxHeartbeats 1000000 in
theorem taken_any {S : Nat → Prop} (va : Value) (l : List Pr) (w : World) (hl : PairsAt S w va l) (h100 : l.length ≤ 4096) :
    Calls Tryd.prog 22 #[va] w fun e w' => ∃ v, e = .returned v ∧ PairsAt (w.heap.size ≤ ·) w' v l ∧ Below w.heap.size w w' := by
  obtain ⟨A, cA, rfl⟩ := hl.slice
  have Hl := Lib.hid hl
  have H100 := Lib.hid h100
  have hn : (l.length : Int) ≤ 4096 := by omega
  clear hl h100
  go_enter Tryd.func22, Tryd.ntmps22
  go_wp2_with fail
  go_loopw [3, 4] (fun vo i wr => ∃ j : Nat, j ≤ l.length ∧ i = .int .i64 j ∧ Hid (wr.ownsRow w.heap.size 47 2 vo j (pairCells (l.take j)) ∧ Below w.heap.size w wr)) (fun _ i _ => l.length - (intOf i).toNat)
  case atStart => exact ⟨0, Nat.zero_le _, rfl, Lib.hid ⟨World.ownsRow_nil _ _ _ _, Below.refl _ _⟩⟩
  case round =>
    obtain ⟨j, hj, rfl, HK⟩ := hrel
    by_cases hlt : j < l.length
    · have hlt3 : (j : Int) < l.length := by omega
      obtain ⟨ab, ao, ac, hv1, hn1, hc1, -, hab, hcell⟩ := (RowAt.form Hl.out (by omega))
      injection hv1 with hv1 _ hv3
      subst hv1 hv3
      obtain ⟨p0, p1⟩ := pairCells_at l j hlt
      have hpt := pairCells_take l j hlt
      obtain ⟨⟨kk, vv⟩, hkv⟩ : ∃ p, l[j] = p := ⟨_, rfl⟩
      rw [hkv] at p0 p1 hpt
      have x0 := cell_keep HK.out.2 (hcell _ _ p0)
      have x1 := cell_keep HK.out.2 (hcell _ _ p1)
      rw [← Nat.add_assoc] at x1
      have hj4 : (j : Int) ≤ 4096 := by omega
      have Hac := Lib.hid (And.intro hc1 hn1)
      have Hpt := Lib.hid hpt
      clear hcell p0 p1 hkv hc1 hn1 hab hpt
      obtain ⟨i0, hi, hz0, hz1, hz2⟩ := info_parts infoRPair
      have h5 : j + 1 ≤ maxLen := by simp [maxLen]; omega
      have h6 : (j + 1) * 32 ≤ 140737488355328 := by omega
      have hone : ∀ u ∈ ([.string kk, .string vv] : List Value), u.oneCell' = true := by simp [Value.oneCell']
      have Hone := Lib.hid hone
      clear hone
      go_wp2_with fail
      go_region_law (
        refine step_append_lies _ rfl (.tmp 11) (.tmp 23) 30 rfl w.heap.size 47 i0 (.agg #[.string ⟨#[]⟩, .string ⟨#[]⟩]) 2 32 Tryd.underlying30 hi hz0 hz1 hz2 rfl (by decide) u3 j (pairCells (l.take j)) rfl (World.ownsRow.drew (World.ownsRow.alloc HK.out.1 _)) ⟨wr.heap.size, 0, none⟩ 1 1 [.string kk, .string vv] rfl rfl (World.news_of_block (blk_new _ _)) Hone.out (by decide) h5 h6 (by have := HK.out.2.size; simp; omega) _ rfl ?_
        intro g3 cap3 w15 hown3 hg3 hat3 hlt3
        have HP := Lib.hid (And.intro hown3 hg3)
        clear hown3 hg3 hat3 hlt3)
      all_goals
        go_wp2_with fail
        go_roundw
        case rel =>
          refine ⟨j + 1, hlt, by go_num, Lib.hid ⟨?_, below_push HK.out.2 HK.out.1 (below_drew1 (box_below wr (.cells #[.string kk, .string vv] 47))) HP.out.2⟩⟩
          rw [Hpt.out]
          exact HP.out.1
        case measure => simp [intOf]; omega
    · obtain rfl : j = l.length := by omega
      have Hlt := Lib.hid hlt
      clear hlt
      have hrow := HK.out.1
      rw [List.take_length] at hrow
      have Hrow := Lib.hid hrow
      clear hrow
      go_wp2_with fail
      go_ret
      exact ⟨_, rfl, RowAt.of_own Hrow.out, HK.out.2⟩
end Go.Proofs.YtmehjcimohhopaaDoor

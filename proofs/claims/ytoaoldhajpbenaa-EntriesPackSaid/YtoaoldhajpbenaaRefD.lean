/- The reference's writer's bytes and end; its pieces. No statement is proved here. -/
import Derived.Test.YtoaoldhajpbenaaRefC
import Derived.Test.YtoaoldhajpbenaaSliceB
namespace Go.Proofs.Ytoaoldhajpbenaa
open Go.RowKit

theorem rwbytes_of {S1 : Nat → Prop} (S : Nat → Prop) (B g : Nat) (xs p : List UInt8) (size : Int) (y : Value) (w : World) (h : WrS 109 S B w g xs 0) (hS : ∀ b, S b → b < w.heap.size) (hp : Bytes S1 w y p) (ys : List UInt8)
    (hadd : ∀ v, Bytes (B ≤ ·) w v xs → Calls Try.prog 95 #[v, .int .i64 size, y] w fun e w' => ∃ u, e = .returned (.tuple #[u, .int .i64 0]) ∧ w'.ownsRow w.heap.size 5 1 u ys.length (byteCells ys) ∧ Below w.heap.size w w') :
    Calls Try.prog 71 #[.pointer (some ⟨g, 0, none⟩), .int .i64 size, y] w fun e w' => (∃ v, e = .returned v) ∧ WrS 109 S B w' g ys 0 ∧ Same S w w' ∧ Below B w w' := by
  obtain ⟨hB, hSg, v, hblk, hown, hvS⟩ := h
  have HS := Lib.hid hS
  clear hS hvS
  obtain ⟨c0, c1, f0, f1⟩ := cells2 hblk
  have hgs := block_lt c0
  have Hblk := Lib.hid hblk
  have hr := RowAt.of_own hown
  obtain ⟨A, c, rfl⟩ := hr.slice
  have Hadd := Lib.hid (hadd _ hr)
  obtain ⟨A2, c2, rfl⟩ := hp.slice
  clear hblk hown hr hadd hp
  go_enter Try.func71, Try.ntmps71
  go_wp2_with fail
  refine Hadd.out.mono ?_
  rintro _ w1 ⟨u, rfl, hown1, hb1⟩
  have hblk1 := blk_keep hb1 Hblk.out
  obtain ⟨d0, d1, e0, e1⟩ := cells2 hblk1
  obtain ⟨A3, c3, rfl⟩ := (RowAt.of_own hown1).slice
  have Hblk1 := Lib.hid hblk1
  have Hown1 := Lib.hid hown1
  clear hblk1 hown1
  go_wp2_with fail
  go_end0
  refine ⟨⟨_, rfl⟩, ⟨hB, hSg, _, blk_put Hblk1.out _, own_lower (own_far Hown1.out hgs _) (by omega), fun k hk hs => ?_⟩, (Same.of_below' hb1 S).setCell hSg _, (hb1.mono (by omega)).setCell hB _⟩
  have := own_blk_ge Hown1.out k hk
  have := HS.out k hs
  omega

theorem rwbytes_at2 {S1 : Nat → Prop} (S : Nat → Prop) (B g : Nat) (xs p : List UInt8) (y : Value) (w : World) (h : WrS 109 S B w g xs 0) (hS : ∀ b, S b → b < w.heap.size) (hp : Bytes S1 w y p) (hx : xs.length ≤ 100000000) (hl : p.length < 65536) :
    Calls Try.prog 71 #[.pointer (some ⟨g, 0, none⟩), .int .i64 2, y] w fun e w' => (∃ v, e = .returned v) ∧ WrS 109 S B w' g (xs ++ be 2 p.length ++ p) 0 ∧ Same S w w' ∧ Below B w w' := by
  refine rwbytes_of S B g xs p 2 y w h hS hp _ fun v hv => ?_
  obtain ⟨A, c, rfl⟩ := hv.slice
  obtain ⟨A2, c2, rfl⟩ := hp.slice
  exact radd_at2 A A2 xs.length p.length c c2 xs p w hv hp rfl rfl hx hl (by omega)
theorem rwbytes_at4 {S1 : Nat → Prop} (S : Nat → Prop) (B g : Nat) (xs p : List UInt8) (y : Value) (w : World) (h : WrS 109 S B w g xs 0) (hS : ∀ b, S b → b < w.heap.size) (hp : Bytes S1 w y p) (hx : xs.length ≤ 100000000) (hl : p.length ≤ 65536) :
    Calls Try.prog 71 #[.pointer (some ⟨g, 0, none⟩), .int .i64 4, y] w fun e w' => (∃ v, e = .returned v) ∧ WrS 109 S B w' g (xs ++ be 4 p.length ++ p) 0 ∧ Same S w w' ∧ Below B w w' := by
  refine rwbytes_of S B g xs p 4 y w h hS hp _ fun v hv => ?_
  obtain ⟨A, c, rfl⟩ := hv.slice
  obtain ⟨A2, c2, rfl⟩ := hp.slice
  exact radd_at4 A A2 xs.length p.length c c2 xs p w hv hp rfl rfl hx (by omega) hl

set_option maxRecDepth 100000 in
set_option maxHeartbeats 1000000 in
theorem rwend_ok (B g : Nat) (xs : List UInt8) (w : World) (h : WrAt 109 B w g xs 0) (hx : xs.length ≤ 1000000000) :
    Calls Try.prog 56 #[.pointer (some ⟨g, 0, none⟩)] w fun e w' => ∃ v, e = .returned (.tuple #[v, .int .i64 0]) ∧ w'.ownsRow w.heap.size 5 1 v xs.length (byteCells xs) ∧ Below w.heap.size w w' := by
  obtain ⟨hB, v, hblk, hown⟩ := h
  obtain ⟨c0, c1, f0, f1⟩ := cells2 hblk
  have hby : Bytes (B ≤ ·) w v xs := RowAt.of_own hown
  obtain ⟨A, c, rfl⟩ := hby.slice
  have Hby := Lib.hid hby
  have Hx := Lib.hid hx
  clear hown hby hblk hx
  go_enter Try.func56, Try.ntmps56
  go_wp2_with (at_builtin; refine wpList_append_bytes _ rfl _ _ rfl _ _ rfl rfl w.heap.size 0 [] (World.ownsRow_nil _ _ _ _) xs Hby.out ?h7 ?hB ?_)
  case h7 => have := Hx.out; omega
  case hB => exact Nat.le_refl _
  intro v1 w1 hown hgr _
  have hb := (Below.refl w.heap.size w).grown hgr (Nat.le_refl _) (by intro k hk; simp [Value.ownBlock] at hk)
  obtain ⟨A', c', rfl⟩ := (RowAt.of_own hown).slice
  have Hown := Lib.hid hown
  clear hown hgr
  go_wp2_with fail
  go_ret2
  exact ⟨_, rfl, by simpa using Hown.out, hb⟩

set_option maxRecDepth 100000 in
set_option maxHeartbeats 4000000 in
/-- A piece, and what stands behind it. -/
theorem rcut_any (S : Nat → Prop) (v : Value) (xs : List UInt8) (size : Nat) (w : World) (hv : Bytes S w v xs) (hs : size = 1 ∨ size = 2 ∨ size = 4) (h47 : xs.length ≤ 140737488355328) :
    Calls Try.prog 100 #[v, .int .i64 size] w fun e w' => ∃ u r, e = .returned (.tuple #[u, r, .int .i64 (cutOf size xs).2.2]) ∧ w'.ownsRow w.heap.size 5 1 u (cutOf size xs).1.length (byteCells (cutOf size xs).1) ∧
      ((cutOf size xs).2.2 = 0 → w'.ownsRow w.heap.size 5 1 r (xs.drop (cutOf size xs).2.1).length (byteCells (xs.drop (cutOf size xs).2.1))) ∧ ((cutOf size xs).2.2 ≠ 0 → r = .slice none 0 0) ∧ Below w.heap.size w w' := by
  have hle := hv.le
  unfold maxLen at hle
  have b1 : ((size : Int) != 1 && ((size : Int) != 2) && ((size : Int) != 4)) = false := by rcases hs with rfl | rfl | rfl <;> rfl
  by_cases c1 : xs.length < size
  · obtain ⟨A, c, rfl⟩ := hv.slice
    have e : cutOf size xs = ([], 0, 10) := by simp [cutOf, c1]
    rw [e]
    have c1' : (xs.length : Int) < size := by omega
    clear e
    rcases hs with rfl | rfl | rfl
    all_goals
      go_enter Try.func100, Try.ntmps100
      go_wp2_with fail
      go_ret3
      exact ⟨_, _, rfl, World.ownsRow_nil _ _ _ _, (fun h => absurd h (by decide)), (fun _ => rfl), Below.refl _ _⟩
  · have hg := rget_yes v xs 0 size w hv (by omega) (by omega) (by omega)
    rw [List.drop_zero] at hg
    have Hg := Lib.hid hg
    have Hv := Lib.hid hv
    obtain ⟨b, o, c, rfl, hn, hc, -, hb, hcell⟩ := hv.form (by omega)
    have ecut : cutOf size xs = if beVal (xs.take size) > 65536 then ([], 0, 3) else if xs.length - size < beVal (xs.take size) then ([], 0, 10)
      else ((xs.drop size).take (beVal (xs.take size)), size + beVal (xs.take size), 0) := by unfold cutOf; rw [if_neg c1]
    rw [ecut]
    have hbl := beVal_lt (xs.take size)
    have hkk : (xs.take size).length = size := by simp; omega
    rw [hkk] at hbl
    have hpw : 256 ^ size ≤ 256 ^ 7 := Nat.pow_le_pow_right (by omega) (by omega)
    have hm : beVal (xs.take size) < 72057594037927936 := Nat.lt_of_lt_of_le hbl hpw
    unfold maxLen at hc
    clear hg hbl hkk hpw hcell ecut hv
    generalize beVal (xs.take size) = m at *
    obtain ⟨M, hM⟩ : ∃ M : Int, M = m := ⟨_, rfl⟩
    rw [← hM] at Hg
    obtain ⟨L, hL⟩ : ∃ L : Nat, xs.length = L := ⟨_, rfl⟩
    rw [hL] at c1 h47 hle hn Hg Hv ⊢
    have s1 : 1 ≤ (size : Int) := by omega
    have s8 : (size : Int) ≤ 4 := by omega
    have s9 : (size : Int) ≤ L := by omega
    have s10 : (size : Int) ≤ c := by omega
    have s11 : (L : Int) ≤ c := by omega
    have s12 : (L : Int) ≤ 140737488355328 := by omega
    have m1 : 0 ≤ M := by omega
    have m2 : M < 72057594037927936 := by omega
    by_cases c2 : m > 65536
    · rw [if_pos c2]
      have c2' : 65536 < M := by omega
      have HM := Lib.hid hM
      clear hM hm hL
      rcases hs with rfl | rfl | rfl
      all_goals
        go_enter Try.func100, Try.ntmps100
        go_wp2_with (go_at_call 77; refine Hg.out.mono ?_; rintro _ _ ⟨rfl, rfl⟩)
        go_ret3
        exact ⟨_, _, rfl, World.ownsRow_nil _ _ _ _, (fun h => absurd h (by decide)), (fun _ => rfl), Below.refl _ _⟩
    · rw [if_neg c2]
      have c2' : M ≤ 65536 := by omega
      by_cases c3 : L - size < m
      · rw [if_pos c3]
        have c3' : (L : Int) - size < M := by omega
        have HM := Lib.hid hM
        clear hM hm hL
        rcases hs with rfl | rfl | rfl
        all_goals
          go_enter Try.func100, Try.ntmps100
          go_wp2_with (go_at_call 77; refine Hg.out.mono ?_; rintro _ _ ⟨rfl, rfl⟩)
          go_ret3
          exact ⟨_, _, rfl, World.ownsRow_nil _ _ _ _, (fun h => absurd h (by decide)), (fun _ => rfl), Below.refl _ _⟩
      · rw [if_neg c3]
        have c3' : ¬ ((L : Int) - size < M) := by omega
        have c4 : (size : Int) + M ≤ L := by omega
        have c5 : (size : Int) + M ≤ c := by omega
        obtain ⟨p, hp⟩ : ∃ p, p = (xs.drop size).take m := ⟨_, rfl⟩
        obtain ⟨r, hr⟩ : ∃ r, r = xs.drop (size + m) := ⟨_, rfl⟩
        rw [← hp]
        show Calls _ _ _ _ fun e w' => ∃ u r', _ ∧ _ ∧ (_ → w'.ownsRow w.heap.size 5 1 r' (xs.drop (size + m)).length (byteCells (xs.drop (size + m)))) ∧ _ ∧ _
        rw [← hr]
        obtain ⟨a1, n1, k1, hb1, hn1, hr1⟩ := bytes_lh Hv.out (size : Int) ((size : Int) + M) (by omega) (by omega) (by rw [hL]; omega)
        obtain ⟨a2, n2, k2, hb2, hn2, hr2⟩ := bytes_l Hv.out ((size : Int) + M) (by omega) (by rw [hL]; omega)
        have e1 : (xs.take ((size : Int) + M).toNat).drop (size : Int).toNat = p := by
          rw [hp, show ((size : Int) + M).toNat = size + m by omega, show (size : Int).toNat = size by omega, List.drop_take, Nat.add_sub_cancel_left]
        have e2 : xs.drop ((size : Int) + M).toNat = r := by rw [hr, show ((size : Int) + M).toNat = size + m by omega]
        rw [e1] at hb1
        rw [e2] at hb2
        have r1 := fun w0 => hr1 w0 .i64 .i64
        have r2 := fun w0 => hr2 w0 .i64
        have l1 : 0 + p.length ≤ 140737488355328 := by rw [hp]; simp; omega
        have l2 : 0 + r.length ≤ 140737488355328 := by rw [hr]; simp; omega
        have HL := Lib.hid (And.intro l1 l2)
        have Hb1 := Lib.hid hb1
        have Hb2 := Lib.hid hb2
        have hg : (((size : Int) != 1) = false ∧ True) ∨ (((size : Int) != 1) = true ∧ ((size : Int) != 2) = false ∧ True) ∨ (((size : Int) != 1) = true ∧ ((size : Int) != 2) = true ∧ ((size : Int) != 4) = false) := by
          rcases hs with rfl | rfl | rfl <;> decide
        clear hs b1 hM hm hL hp hr e1 e2 hb1 hb2 hr1 hr2 hn1 hn2 l1 l2 c2 c3
        rcases hg with ⟨g1, -⟩ | ⟨g1, g2, -⟩ | ⟨g1, g2, g3⟩
        all_goals
          go_enter Try.func100, Try.ntmps100
          go_wp2_with (first | (go_at_call 77; refine Hg.out.mono ?_; rintro _ _ ⟨rfl, rfl⟩) | (at_builtin; refine wpList_append_bytes (S := S) _ rfl _ _ rfl _ _ rfl rfl w.heap.size 0 [] (World.ownsRow_nil _ _ _ _) p Hb1.out HL.out.1 (Nat.le_refl _) ?_; intro u1 w1 hown hgr _; have hb := (Below.refl w.heap.size w).grown hgr (Nat.le_refl _) (own_blk_ge (World.ownsRow_nil w w.heap.size 5 1)); have Hown := Lib.hid hown; clear hown hgr; obtain ⟨A1, c1', rfl⟩ := (RowAt.of_own Hown.out).slice) | (at_builtin; refine wpList_append_bytes (S := S) _ rfl _ _ rfl _ _ rfl rfl w.heap.size 0 [] (World.ownsRow_nil _ _ _ _) r (Hb2.out.keep hb) HL.out.2 hb.size ?_; intro u2 w2 hown2 hgr2 _; have hb2 := hb.grown hgr2 hb.size (own_blk_ge (World.ownsRow_nil w1 w.heap.size 5 1)); have Hown1 := own_keep Hown.out (below_of_grown hgr2); have Hown2 := Lib.hid hown2; have Hown1 := Lib.hid Hown1; clear hown2 hgr2; obtain ⟨A2, c2', rfl⟩ := (RowAt.of_own Hown2.out).slice))
          go_ret3
          exact ⟨_, _, rfl, by simpa using Hown1.out, fun _ => by simpa using Hown2.out, (fun h => absurd rfl h), hb2⟩
end Go.Proofs.Ytoaoldhajpbenaa

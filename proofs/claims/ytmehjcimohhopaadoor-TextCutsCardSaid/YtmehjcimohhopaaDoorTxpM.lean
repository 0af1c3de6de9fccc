/- Bytes that are lent with a mark behind them, kept, spoiled. No statement is proved here. -/
import Derived.Test.YtmehjcimohhopaaDoorTxpL
namespace Go.Proofs.YtmehjcimohhopaaDoor
open Go.RowKit

set_option maxRecDepth 100000 in
set_option maxHeartbeats 1000000 in
theorem lent_any (S : Nat → Prop) (v : Value) (xs : List UInt8) (w : World) (hv : Bytes S w v xs) (h47 : xs.length < 140737488355328) :
    Calls Tryd.prog 24 #[v] w fun e w' => ∃ u, e = .returned u ∧ LentAt w.heap.size w' u xs ∧ Below w.heap.size w w' := by
  obtain ⟨i0, hi, hz0, hz1, hz2⟩ := info_parts infoU8
  have Hv := Lib.hid hv
  have HL := Lib.hid h47
  have h63 : (xs.length : Int) ≤ 9223372036854775807 := by omega
  have hh : (0 : Int) ≤ xs.length := by omega
  obtain ⟨A, c, rfl⟩ := hv.slice
  clear hv h47
  go_enter Tryd.func24, Tryd.ntmps24
  go_wp2_with (first | (at_builtin; refine wpList_append_bytes (S := S) _ rfl _ _ rfl _ _ rfl rfl w.heap.size 0 [] (World.ownsRow_nil _ _ _ _) xs Hv.out (by have := HL.out; omega) (Nat.le_refl _) ?_; intro u1 w1 hown hgr _; have hb := (Below.refl w.heap.size w).grown hgr (Nat.le_refl _) (own_blk_ge (World.ownsRow_nil w w.heap.size 5 1)); have Hown := Lib.hid hown; clear hown hgr) | (at_builtin; refine wpList_append_own_at _ rfl _ _ 48 rfl w.heap.size 5 i0 (.int .u8 0) 1 1 Tryd.underlying48 hi hz0 hz1 hz2 rfl (by decide) u1 _ _ rfl (own_keep Hown.out (box_below w1 (.cells #[.int .u8 167] 5))) ⟨w1.heap.size, 0, none⟩ 1 1 [.int .u8 167] rfl rfl (cell_one _ _ _) (by simp [Value.oneCell']) (by have := HL.out; simp [maxLen]; omega) (by have := HL.out; simp; omega) (by have := hb.size; simp; omega) ?_; intro u2 w2 hown2 hgr2 _ hat2; have hb2 := (below_alloc hb (.cells #[.int .u8 167] 5)).grown hgr2 (by have := hb.size; simp; omega) (own_blk_ge Hown.out); obtain ⟨g, cap, rfl, hcap2, hcap3, hcm⟩ := lent_form hown2; have Hown2 := Lib.hid hown2; clear hown2 hgr2 hat2))
  go_ret
  refine ⟨_, rfl, ⟨g, cap, by simp, ?_⟩, hb2⟩
  have h := Hown2.out
  rw [Nat.zero_add, List.nil_append] at h
  rw [byteCells_append]
  exact h

set_option maxRecDepth 100000 in
set_option maxHeartbeats 1000000 in
theorem kept_any (S : Nat → Prop) (B : Nat) (u v : Value) (xs : List UInt8) (w : World) (hu : LentAt B w u xs) (hv : Bytes S w v xs) (h47 : xs.length < 140737488355328) :
    Calls Tryd.prog 28 #[u, v] w fun e w' => e = .returned (.bool true) ∧ w = w' := by
  obtain ⟨g, cap, rfl, hown⟩ := hu
  obtain ⟨hcap, hcm⟩ : xs.length + 1 ≤ cap ∧ cap ≤ 9223372036854775807 := by
    rcases hown.2 with ⟨_, h⟩ | ⟨g, cap', cur, h, _, _, h1, h2, _⟩
    · omega
    · injection h with _ _ h
      subst h
      exact ⟨h1, by unfold maxLen at h2; omega⟩
  have hby : Bytes (B ≤ ·) w (.slice (some ⟨g, 0, none⟩) xs.length cap) xs := by
    have h1 := RowAt.of_own hown
    have h2 := RowAt.cut (sz := 1) h1 0 xs.length cap (by omega) (by omega) (by unfold maxLen; omega)
    unfold Bytes
    simpa [byteCells_append, byteCells_length] using h2
  obtain ⟨hc, hf⟩ := own_cell (i := xs.length) hown (u := .int .u8 167) (by simp [byteCells])
  have s1 := bytes_str hby
  have s2 := bytes_str hv
  obtain ⟨A, c, rfl⟩ := hv.slice
  have hcap2 : (xs.length : Int) + 1 ≤ cap := by omega
  have hcap3 : cap ≠ 0 := by omega
  have h1 : (xs.length : Int) ≤ 140737488355328 := by omega
  have h2 : xs.length < xs.length + 1 := by omega
  clear hown hby hv hcap h47
  go_enter Tryd.func28, Tryd.ntmps28
  go_wp2_with fail
  go_ret
  exact ⟨by simp, rfl⟩

set_option maxRecDepth 100000 in
set_option maxHeartbeats 2000000 in
/-- A row of the call's own is written over: that row alone, and what is new. -/
theorem spoil_any (B : Nat) (u : Value) (n : Nat) (cs : List Value) (w : World) (hown : w.ownsRow B 5 1 u n cs) (h47 : n < 140737488355328) (hB : B ≤ w.heap.size) :
    Calls Tryd.prog 29 #[u] w fun e w' => (∃ v, e = .returned v) ∧ w.grownBy w' u.ownBlock := by
  obtain ⟨i0, hi, hz0, hz1, hz2⟩ := info_parts infoU8
  obtain ⟨A, c, rfl⟩ := (RowAt.of_own hown).slice
  have Hown := Lib.hid hown
  have H47 := Lib.hid (And.intro h47 hB)
  have h63 : (n : Int) ≤ 9223372036854775806 := by omega
  clear hown h47 hB
  go_enter Tryd.func29, Tryd.ntmps29
  go_wp2_with fail
  go_loopw [2] (fun i wr => ∃ (k : Nat) (ds : List Value), k ≤ n ∧ i = .int .i64 k ∧ wr.ownsRow B 5 1 (.slice A n c) n ds ∧ w.grownBy wr (Value.slice A n c).ownBlock) (fun i _ => n - (intOf i).toNat)
  case atStart => exact ⟨0, cs, Nat.zero_le _, rfl, Hown.out, ⟨rfl, rfl, rfl, Nat.le_refl _, fun _ _ _ => rfl⟩⟩
  case round =>
    obtain ⟨k, ds, hk, rfl, hown, hgr⟩ := hrel
    have Hown1 := Lib.hid hown
    have Hgr := Lib.hid hgr
    by_cases hlt : k < n
    · obtain ⟨g, cap, hu, -⟩ : ∃ g cap, Value.slice A n c = .slice (some ⟨g, 0, none⟩) n cap ∧ True := by
        rcases hown.2 with ⟨_, h⟩ | ⟨g, cap, cur, h, _⟩
        · omega
        · exact ⟨g, cap, h, trivial⟩
      injection hu with hu _ hu2
      subst hu hu2
      have hl : ds.length = n := by have := hown.1; omega
      obtain ⟨x, hx⟩ : ∃ x, ds[k]? = some x := ⟨_, List.getElem?_eq_getElem (by omega)⟩
      obtain ⟨hc, hf⟩ := own_cell (i := k) hown hx
      have hlt2 : (k : Int) < (n : Int) := by omega
      clear hown hgr hl hx
      go_wp2_with fail
      go_roundw
      case rel => exact ⟨k + 1, _, hlt, by simp, own_store Hown1.out hlt _, grown_setO Hgr.out rfl _ _⟩
      case measure => simp [intOf]; omega
    · obtain rfl : k = n := by omega
      clear hown hgr
      have hbw : w.heap.size ≤ wr.heap.size := Hgr.out.size
      go_wp2_with (at_builtin; refine wpList_append_own_at _ rfl _ _ 48 rfl B 5 i0 (.int .u8 0) 1 1 Tryd.underlying48 hi hz0 hz1 hz2 rfl (by decide) (.slice A k c) _ _ rfl (own_keep Hown1.out (box_below wr (.cells #[.int .u8 91] 5))) ⟨wr.heap.size, 0, none⟩ 1 1 [.int .u8 91] rfl rfl (cell_one _ _ _) (by simp [Value.oneCell']) ?h63 ?h47 ?hB ?_)
      case h63 => have := H47.out; simp [maxLen]; omega
      case h47 => have := H47.out; simp; omega
      case hB => have := H47.out; simp; omega
      intro u2 w2 hown2 hgr2 _ hat2
      obtain ⟨g, cap, rfl, hcap2, hcap3, hcm⟩ := lent_form hown2
      obtain ⟨x, hx⟩ : ∃ x, (ds ++ [Value.int .u8 91])[k]? = some x := ⟨_, List.getElem?_eq_getElem (by have := hown2.1; omega)⟩
      obtain ⟨hc, hf⟩ := own_cell (i := k) hown2 hx
      have Hat := Lib.hid hat2
      have Hgr2 := Lib.hid hgr2
      have hkk : (k : Int) < (k : Int) + 1 := by omega
      clear hown2 hgr2 hat2 hx
      go_wp2_with fail
      go_end0
      refine ⟨⟨_, rfl⟩, ?_⟩
      have hg2 := grown_trans (grown_below Hgr.out (box_below wr (.cells #[.int .u8 91] 5))) Hgr2.out
      rcases Hat.out with h | h
      · exact grown_setO hg2 (by rw [← h]; rfl) _ _
      · have hgg : g = wr.heap.size + 1 := by
          injection h with h
        exact grown_new' hg2 (by omega) _
end Go.Proofs.YtmehjcimohhopaaDoor

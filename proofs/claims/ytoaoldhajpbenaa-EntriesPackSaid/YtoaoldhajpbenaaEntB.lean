/- Copies in new memory. No statement is proved here. -/
import Derived.Test.YtoaoldhajpbenaaEntA
namespace Go.Proofs.Ytoaoldhajpbenaa
open Go.RowKit

theorem infoU8 : (Try.prog.info? 5).map (fun i => (i.zero, i.size, i.bytes)) = some (some (.int .u8 0), 1, 1) := by kernel_rfl
theorem infoEntry : (Try.prog.info? 33).map (fun i => (i.zero, i.size, i.bytes)) = some (some (.agg #[.int .i64 0, .int .i64 0, .slice none 0 0]), 3, 40) := by kernel_rfl
theorem infoPart : (Try.prog.info? 82).map (fun i => (i.zero, i.size, i.bytes)) = some (some .nilIface, 1, 16) := by kernel_rfl

theorem own_empty (w : World) (e : TypeId) (sz : Nat) : (w.alloc (.cells #[] e)).ownsRow w.heap.size e sz (.slice (some ⟨w.heap.size, 0, none⟩) 0 0) 0 [] :=
  ⟨by simp, .inr ⟨w.heap.size, 0, #[], rfl, Nat.le_refl _, heap_alloc_new w _, Nat.le_refl _, by simp [maxLen], by simp, by simp⟩⟩

set_option maxHeartbeats 400000 in
theorem clone_bytes_nil (w : World) :
    Calls Try.prog 84 #[.slice none 0 0] w fun e w' => e = .returned (.slice none 0 0) ∧ w = w' := by
  have hq := @Lib.run_eql_slice_nil Try.prog
  go_enter Try.func84, Try.ntmps84
  go_wp2
  go_ret
  exact ⟨rfl, rfl⟩

set_option maxHeartbeats 400000 in
theorem clone_bytes_some (w : World) (b o n c : Nat) (cs : List Value) (hl : cs.length = n * 1) (hn : n ≤ c) (hc : c ≤ maxLen) (h47 : n ≤ 140737488355328) (h1 : ∀ u ∈ cs, u.oneCell' = true)
    (hcell : ∀ i u, cs[i]? = some u → w.cell? ⟨b, o + i, none⟩ = some u) :
    Calls Try.prog 84 #[.slice (some ⟨b, o, none⟩) n c] w fun e w' => ∃ v, e = .returned v ∧ w'.ownsRow w.heap.size 5 1 v n cs ∧ Below w.heap.size w w' := by
  have hq := @Lib.run_eql_slice_nil Try.prog
  obtain ⟨i0, hi, hz0, hz1, hz2⟩ := info_parts infoU8
  have HL := Lib.hid hl
  have H1 := Lib.hid h1
  have HC := Lib.hid hcell
  clear hl h1 hcell
  go_enter Try.func84, Try.ntmps84
  go_wp2_with (at_builtin; refine wpList_append_own_at _ rfl _ _ 31 rfl w.heap.size 5 i0 (.int .u8 0) 1 1 Try.underlying31 hi hz0 hz1 hz2 rfl (by decide) _ 0 [] rfl (own_empty _ _ _) ⟨b, o, none⟩ n c cs rfl HL.out ?hn H1.out ?hm ?h7 ?hB ?_)
  case hn => intro j u hu; rw [add_plain]; exact cell_keep (box_below _ _) (HC.out j u hu)
  case hm => omega
  case h7 => omega
  case hB => simp
  intro v' w' hown hg _ hat
  go_wp2
  go_ret
  refine ⟨v', rfl, by simpa using hown, ((box_below _ _).grown hg (by simp) ?_)⟩
  intro k hk; simp [Value.ownBlock] at hk; omega

set_option maxHeartbeats 400000 in
theorem clone_bytes_empty (w : World) (a : Addr) (c : Nat) :
    Calls Try.prog 84 #[.slice (some a) 0 c] w fun e w' => ∃ v, e = .returned v ∧ w'.ownsRow w.heap.size 5 1 v 0 [] ∧ Below w.heap.size w w' := by
  have hq := @Lib.run_eql_slice_nil Try.prog
  obtain ⟨i0, hi, hz0, hz1, hz2⟩ := info_parts infoU8
  go_enter Try.func84, Try.ntmps84
  go_wp2_with (at_builtin; refine wpList_append_own_at _ rfl _ _ 31 rfl w.heap.size 5 i0 (.int .u8 0) 1 1 Try.underlying31 hi hz0 hz1 hz2 rfl (by decide) _ 0 [] rfl (own_empty _ _ _) a 0 c [] rfl rfl ?hn ?h1 ?hm ?h7 ?hB ?_)
  case hn => intro j u hu; simp at hu
  case h1 => intro u hu; simp at hu
  case hm => simp [maxLen]
  case h7 => omega
  case hB => simp
  intro v' w' hown hg _ hat
  go_wp2
  go_ret
  refine ⟨v', rfl, by simpa using hown, ((box_below _ _).grown hg (by simp) ?_)⟩
  intro k hk; simp [Value.ownBlock] at hk; omega

/-- A copy of bytes: new, and as they were. -/
theorem clone_bytes (w : World) (v : Value) (xs : List UInt8) {S : Nat → Prop} (h : Bytes S w v xs) (h47 : xs.length ≤ 140737488355328) :
    Calls Try.prog 84 #[v] w fun e w' => ∃ v', e = .returned v' ∧ w'.ownsRow w.heap.size 5 1 v' xs.length (byteCells xs) ∧ Below w.heap.size w w' := by
  rcases h.2 with ⟨h0, rfl | ⟨a, c, rfl⟩⟩ | ⟨b, o, c, rfl, hn, hc, _, hb, hcell⟩
  · refine (clone_bytes_nil w).mono ?_
    rintro e w' ⟨rfl, rfl⟩
    obtain rfl : xs = [] := List.eq_nil_of_length_eq_zero h0
    exact ⟨_, rfl, ⟨rfl, .inl ⟨rfl, rfl⟩⟩, Below.refl _ _⟩
  · obtain rfl : xs = [] := List.eq_nil_of_length_eq_zero h0
    exact clone_bytes_empty w a c
  · exact clone_bytes_some w b o _ c _ h.1 hn hc h47 (byteCells_one xs) hcell

set_option maxHeartbeats 400000 in
theorem clone_parts (w : World) (b o n c : Nat) (cs : List Value) (hl : cs.length = n * 1) (hn : n ≤ c) (hc : c ≤ maxLen) (h47 : n * 16 ≤ 140737488355328) (h1 : ∀ u ∈ cs, u.oneCell' = true)
    (hcell : ∀ i u, cs[i]? = some u → w.cell? ⟨b, o + i, none⟩ = some u) :
    Calls Try.prog 44 #[.slice (some ⟨b, o, none⟩) n c] w fun e w' => ∃ v, e = .returned v ∧ w'.ownsRow w.heap.size 82 1 v n cs ∧ Below w.heap.size w w' := by
  have hq := @Lib.run_eql_slice_nil Try.prog
  obtain ⟨i0, hi, hz0, hz1, hz2⟩ := info_parts infoPart
  have HL := Lib.hid hl
  have H1 := Lib.hid h1
  have HC := Lib.hid hcell
  clear hl h1 hcell
  go_enter Try.func44, Try.ntmps44
  go_wp2_with (at_builtin; refine wpList_append_own_at _ rfl _ _ 86 rfl w.heap.size 82 i0 .nilIface 1 16 Try.underlying86 hi hz0 hz1 hz2 rfl (by decide) _ 0 [] rfl (own_empty _ _ _) ⟨b, o, none⟩ n c cs rfl HL.out ?hn H1.out ?hm ?h7 ?hB ?_)
  case hn => intro j u hu; rw [add_plain]; exact cell_keep (box_below _ _) (HC.out j u hu)
  case hm => omega
  case h7 => omega
  case hB => simp
  intro v' w' hown hg _ hat
  go_wp2
  go_ret
  refine ⟨v', rfl, by simpa using hown, ((box_below _ _).grown hg (by simp) ?_)⟩
  intro k hk; simp [Value.ownBlock] at hk; omega

set_option maxHeartbeats 400000 in
theorem clip_any (w : World) (A : Option Addr) (n c : Nat) (hn : (n : Int) ≤ c) (hc : c ≤ 9223372036854775807) :
    Calls Try.prog 46 #[.slice A n c] w fun e w' => e = .returned (.slice A n n) ∧ w = w' := by
  go_enter Try.func46, Try.ntmps46
  go_wp2
  go_ret
  exact ⟨rfl, rfl⟩

set_option maxHeartbeats 400000 in
theorem own_any (w : World) (k t : Int) (v : Value) (xs : List UInt8) {S : Nat → Prop} (h : Bytes S w v xs) (h47 : xs.length ≤ 140737488355328) :
    Calls Try.prog 47 #[.agg #[.int .i64 k, .int .i64 t, v]] w fun e w' => ∃ v', e = .returned (.agg #[.int .i64 k, .int .i64 t, v']) ∧ Bytes (w.heap.size ≤ ·) w' v' xs ∧ Below w.heap.size w w' := by
  obtain ⟨A, c, rfl⟩ := h.slice
  go_enter Try.func47, Try.ntmps47
  go_wp2_with fail
  refine (clone_bytes _ _ xs (h.keep (((box_below _ _).alloc (by simp) _))) h47).mono ?_
  rintro e w1 ⟨v', rfl, hown, hb⟩
  have hr := RowAt.of_own hown
  obtain ⟨A', c', rfl⟩ := hr.slice
  obtain ⟨k0, k1, k2, _, _, f2⟩ := cells3 (blk_keep hb (blk_alloc (blk_new w _) _))
  have hB := blk_new (w.alloc (.cells #[.int .i64 k, .int .i64 t, .slice A xs.length c] 33)) (.cells #[.int .i64 0, .int .i64 0, .slice none 0 0] 33)
  rw [World.size_alloc] at hB
  obtain ⟨k3, k4, k5, f3, f4, f5⟩ := cells3 (blk_keep hb hB)
  have Hr := Lib.hid hr
  clear hown hr hB
  go_wp2
  refine bodyPost_ret (v := .agg #[.int .i64 k, .int .i64 t, .slice A' xs.length c']) (by simp [results, Try.results47, go_sem, k3, k4, k5]) rfl ⟨_, rfl, ?_, ?_⟩
  · refine ((Bytes.keepS Hr.out ?_).mono fun b _ h => ?_)
    · exact ((((Same.refl _ _).setCell (by simp; omega) _).setCell (by simp) _).setCell (by simp) _).setCell (by simp) _
    · simp at h; omega
  · exact ((((below_then ((box_below w _).alloc (by simp) _) hb).setCell (by simp) _).setCell (by simp) _).setCell (by simp) _).setCell (by simp) _
end Go.Proofs.Ytoaoldhajpbenaa

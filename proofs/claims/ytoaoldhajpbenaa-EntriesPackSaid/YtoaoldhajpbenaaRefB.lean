/- The reference of package field: bytes behind their length, pieces. No statement is proved here. -/
import Derived.Test.YtoaoldhajpbenaaRefA
import Derived.Test.YtoaoldhajpbenaaFldG
namespace Go.Proofs.Ytoaoldhajpbenaa
open Go.RowKit

theorem bytes_zeros (w : World) (n : Nat) (h : n ≤ maxLen) : Bytes (w.heap.size ≤ ·) (w.alloc (.cells (byteCells (List.replicate n 0)).toArray 5)) (.slice (some ⟨w.heap.size, 0, none⟩) n n) (List.replicate n 0) := by
  refine ⟨by simp [byteCells_length], .inr ⟨w.heap.size, 0, n, by simp, by simp, h, Nat.le_refl _, by simp, fun i u hu => ?_⟩⟩
  rw [cell_of_row _ _ _ _ _ _ (blk_new w _)]
  simpa using hu

set_option maxRecDepth 100000 in
set_option maxHeartbeats 2000000 in
theorem radd_at2 {S1 S2 : Nat → Prop} (A1 A2 : Option Addr) (n1 n2 c1 c2 : Nat) (x1 x2 : List UInt8) (w : World)
    (h1 : Bytes S1 w (.slice A1 n1 c1) x1) (h2 : Bytes S2 w (.slice A2 n2 c2) x2) (hn1 : x1.length = n1) (hn2 : x2.length = n2) (hs1 : n1 ≤ 100000000) (hs2 : n2 < 65536) (hs3 : n2 ≤ 65536) :
    Calls Try.prog 95 #[.slice A1 n1 c1, .int .i64 2, .slice A2 n2 c2] w fun e w' => ∃ v, e = .returned (.tuple #[v, .int .i64 0]) ∧ w'.ownsRow w.heap.size 5 1 v (x1 ++ be 2 n2 ++ x2).length (byteCells (x1 ++ be 2 n2 ++ x2)) ∧ Below w.heap.size w w' := by
  obtain ⟨m, hm⟩ : ∃ m : Int, m = n2 := ⟨_, rfl⟩
  have q1 : ¬ (m > 65536) := by omega
  have q2 : 0 ≤ m := by omega
  have q3 : m < 4294967296 := by omega
  have hf : ∀ W, Calls Try.prog 107 #[.int .u64 n2, .int .i64 2] W fun e w' => e = .returned (.bool true) ∧ W = w' := by
    intro W
    refine (rfits_any n2 2 W (by omega) (by decide) (by decide)).mono ?_
    rintro _ _ ⟨rfl, rfl⟩
    exact ⟨by simp [fitsB]; omega, rfl⟩
  have hmk : ∀ w : World, (Instr.makeSlice 31 (.int .i64 2) (.int .i64 2)).run Try.prog w = .ok (.slice (some ⟨w.heap.size, 0, none⟩) 2 2) (w.alloc (.cells #[.int .u8 0, .int .u8 0] 5)) := fun _ => by kernel_rfl
  have Hf := Lib.hid hf
  have Hm := Lib.hid hm
  have H1 := Lib.hid h1
  have H2 := Lib.hid h2
  have H := Lib.hid (And.intro hn1 (And.intro hn2 (And.intro hs1 (And.intro hs2 hs3))))
  clear hf h1 h2 hn1 hn2 hs1 hs2 hs3
  go_enter Try.func95, Try.ntmps95
  go_wp2_with (go_at_call 107; refine (Hf.out _).mono ?_; rintro _ _ ⟨rfl, rfl⟩)
  refine (rput_at2 _ _ (List.replicate 2 0) n2 _ (bytes_zeros w 2 (by decide)) (by simp) (by omega) (by have := H.out; omega)).mono ?_
  rintro _ w1 ⟨u, rfl, hown, hb1⟩
  have hb : Below w.heap.size w w1 := below_then (box_below _ _) hb1
  rw [Int.toNat_natCast] at hown
  have hown' := own_lower hown (B := w.heap.size) (by simp)
  have hl := be_length 2 n2
  have hr := RowAt.of_own hown
  obtain ⟨A3, c3, rfl⟩ := hr.slice
  have hby : Bytes (w.heap.size ≤ ·) w1 (.slice A3 2 c3) (be 2 n2) := by unfold Bytes; rw [hl]; exact RowAt.of_own hown'
  have Hby := Lib.hid hby
  clear hown hown' hl hr hby hmk
  go_wp2_with (at_builtin; refine wpList_append_bytes (S := S1) _ rfl _ _ rfl _ _ rfl rfl w.heap.size 0 [] (World.ownsRow_nil _ _ _ _) x1 ?hy ?h7 ?hB ?_)
  case hy => have := H1.out.keep hb; have e := H.out.1; subst e; exact this
  case h7 => have := H.out; omega
  case hB => exact hb.size
  intro v1 w2 hown1 hg1 _
  have hb2 := hb.grown hg1 hb.size (own_blk_ge (World.ownsRow_nil w1 w.heap.size 5 1))
  have hby2 := Hby.out.keep (below_of_grown hg1)
  have Hby2 := Lib.hid hby2
  clear hby2
  have Hown1 := Lib.hid hown1
  clear hown1
  go_wp2_with (at_builtin; refine wpList_append_bytes _ rfl _ _ rfl _ _ rfl rfl w.heap.size x1.length (byteCells x1) Hown1.out (be 2 n2) Hby2.out ?g7 ?gB ?_)
  case g7 => have := H.out; rw [be_length]; omega
  case gB => exact hb2.size
  intro v2 w3 hown2 hg2 _
  have hb3 := hb2.grown hg2 hb2.size (own_blk_ge Hown1.out)
  have Hown2 := Lib.hid hown2
  clear hown2
  go_wp2_with (at_builtin; refine wpList_append_bytes (S := S2) _ rfl _ _ rfl _ _ rfl rfl w.heap.size (x1.length + (be 2 n2).length) (byteCells x1 ++ byteCells (be 2 n2)) Hown2.out x2 ?ky ?k7 ?kB ?_)
  case ky => have := H2.out.keep hb3; have e := H.out.2.1; subst e; exact this
  case k7 => have := H.out; rw [be_length]; omega
  case kB => exact hb3.size
  intro v3 w4 hown3 hg3 _
  have hb4 := hb3.grown hg3 hb3.size (own_blk_ge Hown2.out)
  have Hown3 := Lib.hid hown3
  clear hown3 hg1 hg2 hg3
  go_wp2_with fail
  go_ret2
  refine ⟨_, rfl, ?_, hb4⟩
  have h := Hown3.out
  simpa [byteCells_append, List.append_assoc, Nat.add_assoc] using h

set_option maxRecDepth 100000 in
set_option maxHeartbeats 2000000 in
theorem radd_at4 {S1 S2 : Nat → Prop} (A1 A2 : Option Addr) (n1 n2 c1 c2 : Nat) (x1 x2 : List UInt8) (w : World)
    (h1 : Bytes S1 w (.slice A1 n1 c1) x1) (h2 : Bytes S2 w (.slice A2 n2 c2) x2) (hn1 : x1.length = n1) (hn2 : x2.length = n2) (hs1 : n1 ≤ 100000000) (hs2 : n2 < 4294967296) (hs3 : n2 ≤ 65536) :
    Calls Try.prog 95 #[.slice A1 n1 c1, .int .i64 4, .slice A2 n2 c2] w fun e w' => ∃ v, e = .returned (.tuple #[v, .int .i64 0]) ∧ w'.ownsRow w.heap.size 5 1 v (x1 ++ be 4 n2 ++ x2).length (byteCells (x1 ++ be 4 n2 ++ x2)) ∧ Below w.heap.size w w' := by
  obtain ⟨m, hm⟩ : ∃ m : Int, m = n2 := ⟨_, rfl⟩
  have q1 : ¬ (m > 65536) := by omega
  have q2 : 0 ≤ m := by omega
  have q3 : m < 4294967296 := by omega
  have hf : ∀ W, Calls Try.prog 107 #[.int .u64 n2, .int .i64 4] W fun e w' => e = .returned (.bool true) ∧ W = w' := by
    intro W
    refine (rfits_any n2 4 W (by omega) (by decide) (by decide)).mono ?_
    rintro _ _ ⟨rfl, rfl⟩
    exact ⟨by simp [fitsB]; omega, rfl⟩
  have hmk : ∀ w : World, (Instr.makeSlice 31 (.int .i64 4) (.int .i64 4)).run Try.prog w = .ok (.slice (some ⟨w.heap.size, 0, none⟩) 4 4) (w.alloc (.cells #[.int .u8 0, .int .u8 0, .int .u8 0, .int .u8 0] 5)) := fun _ => by kernel_rfl
  have Hf := Lib.hid hf
  have Hm := Lib.hid hm
  have H1 := Lib.hid h1
  have H2 := Lib.hid h2
  have H := Lib.hid (And.intro hn1 (And.intro hn2 (And.intro hs1 (And.intro hs2 hs3))))
  clear hf h1 h2 hn1 hn2 hs1 hs2 hs3
  go_enter Try.func95, Try.ntmps95
  go_wp2_with (go_at_call 107; refine (Hf.out _).mono ?_; rintro _ _ ⟨rfl, rfl⟩)
  refine (rput_at4 _ _ (List.replicate 4 0) n2 _ (bytes_zeros w 4 (by decide)) (by simp) (by omega) (by have := H.out; omega)).mono ?_
  rintro _ w1 ⟨u, rfl, hown, hb1⟩
  have hb : Below w.heap.size w w1 := below_then (box_below _ _) hb1
  rw [Int.toNat_natCast] at hown
  have hown' := own_lower hown (B := w.heap.size) (by simp)
  have hl := be_length 4 n2
  have hr := RowAt.of_own hown
  obtain ⟨A3, c3, rfl⟩ := hr.slice
  have hby : Bytes (w.heap.size ≤ ·) w1 (.slice A3 4 c3) (be 4 n2) := by unfold Bytes; rw [hl]; exact RowAt.of_own hown'
  have Hby := Lib.hid hby
  clear hown hown' hl hr hby hmk
  go_wp2_with (at_builtin; refine wpList_append_bytes (S := S1) _ rfl _ _ rfl _ _ rfl rfl w.heap.size 0 [] (World.ownsRow_nil _ _ _ _) x1 ?hy ?h7 ?hB ?_)
  case hy => have := H1.out.keep hb; have e := H.out.1; subst e; exact this
  case h7 => have := H.out; omega
  case hB => exact hb.size
  intro v1 w2 hown1 hg1 _
  have hb2 := hb.grown hg1 hb.size (own_blk_ge (World.ownsRow_nil w1 w.heap.size 5 1))
  have hby2 := Hby.out.keep (below_of_grown hg1)
  have Hby2 := Lib.hid hby2
  clear hby2
  have Hown1 := Lib.hid hown1
  clear hown1
  go_wp2_with (at_builtin; refine wpList_append_bytes _ rfl _ _ rfl _ _ rfl rfl w.heap.size x1.length (byteCells x1) Hown1.out (be 4 n2) Hby2.out ?g7 ?gB ?_)
  case g7 => have := H.out; rw [be_length]; omega
  case gB => exact hb2.size
  intro v2 w3 hown2 hg2 _
  have hb3 := hb2.grown hg2 hb2.size (own_blk_ge Hown1.out)
  have Hown2 := Lib.hid hown2
  clear hown2
  go_wp2_with (at_builtin; refine wpList_append_bytes (S := S2) _ rfl _ _ rfl _ _ rfl rfl w.heap.size (x1.length + (be 4 n2).length) (byteCells x1 ++ byteCells (be 4 n2)) Hown2.out x2 ?ky ?k7 ?kB ?_)
  case ky => have := H2.out.keep hb3; have e := H.out.2.1; subst e; exact this
  case k7 => have := H.out; rw [be_length]; omega
  case kB => exact hb3.size
  intro v3 w4 hown3 hg3 _
  have hb4 := hb3.grown hg3 hb3.size (own_blk_ge Hown2.out)
  have Hown3 := Lib.hid hown3
  clear hown3 hg1 hg2 hg3
  go_wp2_with fail
  go_ret2
  refine ⟨_, rfl, ?_, hb4⟩
  have h := Hown3.out
  simpa [byteCells_append, List.append_assoc, Nat.add_assoc] using h
end Go.Proofs.Ytoaoldhajpbenaa

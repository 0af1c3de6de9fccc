/- A row of bytes behind its length: field.Add. No statement is proved here. -/
import Derived.Test.YtoaoldhajpbenaaFldF
import Derived.Test.YtoaoldhajpbenaaFldC
namespace Go.Proofs.Ytoaoldhajpbenaa
open Go.RowKit

theorem own_lower {w : World} {B B' size n : Nat} {e : TypeId} {v : Value} {xs : List Value} (h : w.ownsRow B' e size v n xs) (hB : B ≤ B') : w.ownsRow B e size v n xs := by
  refine ⟨h.1, ?_⟩
  rcases h.2 with h | ⟨g, cap, cur, h1, h2, h3⟩
  · exact .inl h
  · exact .inr ⟨g, cap, cur, h1, Nat.le_trans hB h2, h3⟩

/-- The tail of a number's eight bytes. -/
theorem tail_row (W : World) (b n size : Nat) (t : TypeId) (hn : n < 18446744073709551616) (h8 : size ≤ 8) (hb : W.heap[b]? = some (.cells (num8 n).toArray t (0, 0))) :
    Bytes (fun _ => True) W (.slice (some ⟨b, 8 - size, none⟩) size size) (be size n) := by
  have hl : (be size n).length = size := be_length _ _
  refine ⟨by simp [byteCells_length], .inr ⟨b, 8 - size, size, by rw [hl], by omega, by unfold maxLen; omega, trivial, (Array.getElem?_eq_some_iff.1 hb).1, fun i u hu => ?_⟩⟩
  rw [cell_of_row W b (8 - size + i) _ t (0, 0) hb]
  rw [← be_drop n size h8] at hu
  have e : byteCells ((be 8 n).drop (8 - size)) = (byteCells (be 8 n)).drop (8 - size) := by simp [byteCells]
  rw [e, ← num8_be n hn, List.getElem?_drop] at hu
  simpa using hu

set_option maxRecDepth 100000 in
set_option maxHeartbeats 2000000 in
theorem add_at1 {S1 S2 : Nat → Prop} (a1 a2 : Option Addr) (n1 n2 c1 c2 : Nat) (x1 x2 : List UInt8) (w : World)
    (h1 : Bytes S1 w (.slice a1 n1 c1) x1) (h2 : Bytes S2 w (.slice a2 n2 c2) x2) (hn1 : x1.length = n1) (hn2 : x2.length = n2) (hs1 : n1 ≤ 100000000) (hs2 : n2 < 256) :
    Calls Try.prog 93 #[.slice a1 n1 c1, .int .i64 1, .slice a2 n2 c2] w fun e w' => ∃ v, e = .returned (.tuple #[v, .int .i64 0]) ∧ w'.ownsRow w.heap.size 5 1 v (x1 ++ be 1 n2 ++ x2).length (byteCells (x1 ++ be 1 n2 ++ x2)) ∧ Below w.heap.size w w' := by
  obtain ⟨m, hm⟩ : ∃ m : Int, m = n2 := ⟨_, rfl⟩
  have q1 : ¬ (m > 65536) := by omega
  have q2 : 0 ≤ m := by omega
  have q3 : m < 4294967296 := by omega
  have hr : ∀ W, Calls Try.prog 104 #[.int .i64 1] W fun e w' => e = .returned (.bool true) ∧ W = w' := fun W => (rightSize_any 1 W).mono (by rintro _ _ ⟨rfl, rfl⟩; exact ⟨rfl, rfl⟩)
  have hf : ∀ W, Calls Try.prog 105 #[.int .u64 n2, .int .i64 1] W fun e w' => e = .returned (.bool true) ∧ W = w' := by
    intro W
    refine (fits_any n2 1 W (by omega) (by decide) (by decide)).mono ?_
    rintro _ _ ⟨rfl, rfl⟩
    exact ⟨by simp [fitsB]; omega, rfl⟩
  have Hr := Lib.hid hr
  have Hf := Lib.hid hf
  have Hm := Lib.hid hm
  have H1 := Lib.hid h1
  have H2 := Lib.hid h2
  have H := Lib.hid (And.intro hn1 (And.intro hn2 (And.intro hs1 hs2)))
  clear hr hf h1 h2 hn1 hn2 hs1 hs2
  go_enter Try.func93, Try.ntmps93
  go_wp2_with fail
  refine (Hr.out _).mono ?_
  rintro _ _ ⟨rfl, rfl⟩
  go_wp2_with fail
  refine (Hf.out _).mono ?_
  rintro _ _ ⟨rfl, rfl⟩
  go_wp2_with fail
  refine (number_any n2 _ (by have := H.out; omega)).mono ?_
  rintro _ w1 ⟨rfl, hb1⟩
  unfold num8
  go_wp2_with fail
  refine (concat3 (S1 := S1) (S2 := fun _ => True) (S3 := S2) (w1.heap.size + 1) a1 (some ⟨w1.heap.size, 7, none⟩) a2 n1 1 n2 c1 1 c2 x1 (be 1 n2) x2 31 _ ?hblk ?h1 ?h2 ?h3 ?e1 ?e2 ?e3 ?hs).mono ?_
  case hblk => have h := blk_new (w1.alloc (.cells (num8 n2).toArray 146)) (.cells #[.slice a1 n1 c1, .slice (some ⟨w1.heap.size, 7, none⟩) 1 1, .slice a2 n2 c2] 31); simpa [num8] using h
  case h1 => exact ((H1.out.keep hb1).keep (box_below _ _)).keep (box_below _ _)
  case h3 => exact ((H2.out.keep hb1).keep (box_below _ _)).keep (box_below _ _)
  case h2 => exact tail_row _ w1.heap.size n2 1 146 (by have := H.out; omega) (by omega) (blk_alloc (blk_new w1 _) _)
  case e1 => exact H.out.1
  case e2 => exact be_length _ _
  case e3 => exact H.out.2.1
  case hs => have := H.out; omega
  rintro _ w4 ⟨v, rfl, hown, hb4⟩
  have hb3 : Below w.heap.size w w4 := by
    have k1 := hb1.alloc hb1.size (.cells (num8 n2).toArray 146)
    have k2 := k1.alloc k1.size (.cells #[.slice a1 n1 c1, .slice (some ⟨w1.heap.size, 7, none⟩) 1 1, .slice a2 n2 c2] 31)
    exact below_then k2 hb4
  have hle : w.heap.size ≤ w1.heap.size := hb1.size
  have hlen : n1 + 1 + n2 = (x1 ++ be 1 n2 ++ x2).length := by have := H.out; simp [be_length]; omega
  rw [hlen] at hown
  have hby := own_lower hown (B := w.heap.size) (by simp; omega)
  have Hby := Lib.hid hby
  have Hb3 := Lib.hid hb3
  clear hby hb3 hown hlen hb4
  go_wp2_with fail
  go_ret2
  exact ⟨_, rfl, Hby.out, Hb3.out⟩
set_option maxRecDepth 100000 in
set_option maxHeartbeats 2000000 in
theorem add_at2 {S1 S2 : Nat → Prop} (a1 a2 : Option Addr) (n1 n2 c1 c2 : Nat) (x1 x2 : List UInt8) (w : World)
    (h1 : Bytes S1 w (.slice a1 n1 c1) x1) (h2 : Bytes S2 w (.slice a2 n2 c2) x2) (hn1 : x1.length = n1) (hn2 : x2.length = n2) (hs1 : n1 ≤ 100000000) (hs2 : n2 < 65536) :
    Calls Try.prog 93 #[.slice a1 n1 c1, .int .i64 2, .slice a2 n2 c2] w fun e w' => ∃ v, e = .returned (.tuple #[v, .int .i64 0]) ∧ w'.ownsRow w.heap.size 5 1 v (x1 ++ be 2 n2 ++ x2).length (byteCells (x1 ++ be 2 n2 ++ x2)) ∧ Below w.heap.size w w' := by
  obtain ⟨m, hm⟩ : ∃ m : Int, m = n2 := ⟨_, rfl⟩
  have q1 : ¬ (m > 65536) := by omega
  have q2 : 0 ≤ m := by omega
  have q3 : m < 4294967296 := by omega
  have hr : ∀ W, Calls Try.prog 104 #[.int .i64 2] W fun e w' => e = .returned (.bool true) ∧ W = w' := fun W => (rightSize_any 2 W).mono (by rintro _ _ ⟨rfl, rfl⟩; exact ⟨rfl, rfl⟩)
  have hf : ∀ W, Calls Try.prog 105 #[.int .u64 n2, .int .i64 2] W fun e w' => e = .returned (.bool true) ∧ W = w' := by
    intro W
    refine (fits_any n2 2 W (by omega) (by decide) (by decide)).mono ?_
    rintro _ _ ⟨rfl, rfl⟩
    exact ⟨by simp [fitsB]; omega, rfl⟩
  have Hr := Lib.hid hr
  have Hf := Lib.hid hf
  have Hm := Lib.hid hm
  have H1 := Lib.hid h1
  have H2 := Lib.hid h2
  have H := Lib.hid (And.intro hn1 (And.intro hn2 (And.intro hs1 hs2)))
  clear hr hf h1 h2 hn1 hn2 hs1 hs2
  go_enter Try.func93, Try.ntmps93
  go_wp2_with fail
  refine (Hr.out _).mono ?_
  rintro _ _ ⟨rfl, rfl⟩
  go_wp2_with fail
  refine (Hf.out _).mono ?_
  rintro _ _ ⟨rfl, rfl⟩
  go_wp2_with fail
  refine (number_any n2 _ (by have := H.out; omega)).mono ?_
  rintro _ w1 ⟨rfl, hb1⟩
  unfold num8
  go_wp2_with fail
  refine (concat3 (S1 := S1) (S2 := fun _ => True) (S3 := S2) (w1.heap.size + 1) a1 (some ⟨w1.heap.size, 6, none⟩) a2 n1 2 n2 c1 2 c2 x1 (be 2 n2) x2 31 _ ?hblk ?h1 ?h2 ?h3 ?e1 ?e2 ?e3 ?hs).mono ?_
  case hblk => have h := blk_new (w1.alloc (.cells (num8 n2).toArray 146)) (.cells #[.slice a1 n1 c1, .slice (some ⟨w1.heap.size, 6, none⟩) 2 2, .slice a2 n2 c2] 31); simpa [num8] using h
  case h1 => exact ((H1.out.keep hb1).keep (box_below _ _)).keep (box_below _ _)
  case h3 => exact ((H2.out.keep hb1).keep (box_below _ _)).keep (box_below _ _)
  case h2 => exact tail_row _ w1.heap.size n2 2 146 (by have := H.out; omega) (by omega) (blk_alloc (blk_new w1 _) _)
  case e1 => exact H.out.1
  case e2 => exact be_length _ _
  case e3 => exact H.out.2.1
  case hs => have := H.out; omega
  rintro _ w4 ⟨v, rfl, hown, hb4⟩
  have hb3 : Below w.heap.size w w4 := by
    have k1 := hb1.alloc hb1.size (.cells (num8 n2).toArray 146)
    have k2 := k1.alloc k1.size (.cells #[.slice a1 n1 c1, .slice (some ⟨w1.heap.size, 6, none⟩) 2 2, .slice a2 n2 c2] 31)
    exact below_then k2 hb4
  have hle : w.heap.size ≤ w1.heap.size := hb1.size
  have hlen : n1 + 2 + n2 = (x1 ++ be 2 n2 ++ x2).length := by have := H.out; simp [be_length]; omega
  rw [hlen] at hown
  have hby := own_lower hown (B := w.heap.size) (by simp; omega)
  have Hby := Lib.hid hby
  have Hb3 := Lib.hid hb3
  clear hby hb3 hown hlen hb4
  go_wp2_with fail
  go_ret2
  exact ⟨_, rfl, Hby.out, Hb3.out⟩
set_option maxRecDepth 100000 in
set_option maxHeartbeats 2000000 in
theorem add_at4 {S1 S2 : Nat → Prop} (a1 a2 : Option Addr) (n1 n2 c1 c2 : Nat) (x1 x2 : List UInt8) (w : World)
    (h1 : Bytes S1 w (.slice a1 n1 c1) x1) (h2 : Bytes S2 w (.slice a2 n2 c2) x2) (hn1 : x1.length = n1) (hn2 : x2.length = n2) (hs1 : n1 ≤ 100000000) (hs2 : n2 ≤ 65536) :
    Calls Try.prog 93 #[.slice a1 n1 c1, .int .i64 4, .slice a2 n2 c2] w fun e w' => ∃ v, e = .returned (.tuple #[v, .int .i64 0]) ∧ w'.ownsRow w.heap.size 5 1 v (x1 ++ be 4 n2 ++ x2).length (byteCells (x1 ++ be 4 n2 ++ x2)) ∧ Below w.heap.size w w' := by
  obtain ⟨m, hm⟩ : ∃ m : Int, m = n2 := ⟨_, rfl⟩
  have q1 : ¬ (m > 65536) := by omega
  have q2 : 0 ≤ m := by omega
  have q3 : m < 4294967296 := by omega
  have hr : ∀ W, Calls Try.prog 104 #[.int .i64 4] W fun e w' => e = .returned (.bool true) ∧ W = w' := fun W => (rightSize_any 4 W).mono (by rintro _ _ ⟨rfl, rfl⟩; exact ⟨rfl, rfl⟩)
  have hf : ∀ W, Calls Try.prog 105 #[.int .u64 n2, .int .i64 4] W fun e w' => e = .returned (.bool true) ∧ W = w' := by
    intro W
    refine (fits_any n2 4 W (by omega) (by decide) (by decide)).mono ?_
    rintro _ _ ⟨rfl, rfl⟩
    exact ⟨by simp [fitsB]; omega, rfl⟩
  have Hr := Lib.hid hr
  have Hf := Lib.hid hf
  have Hm := Lib.hid hm
  have H1 := Lib.hid h1
  have H2 := Lib.hid h2
  have H := Lib.hid (And.intro hn1 (And.intro hn2 (And.intro hs1 hs2)))
  clear hr hf h1 h2 hn1 hn2 hs1 hs2
  go_enter Try.func93, Try.ntmps93
  go_wp2_with fail
  refine (Hr.out _).mono ?_
  rintro _ _ ⟨rfl, rfl⟩
  go_wp2_with fail
  refine (Hf.out _).mono ?_
  rintro _ _ ⟨rfl, rfl⟩
  go_wp2_with fail
  refine (number_any n2 _ (by have := H.out; omega)).mono ?_
  rintro _ w1 ⟨rfl, hb1⟩
  unfold num8
  go_wp2_with fail
  refine (concat3 (S1 := S1) (S2 := fun _ => True) (S3 := S2) (w1.heap.size + 1) a1 (some ⟨w1.heap.size, 4, none⟩) a2 n1 4 n2 c1 4 c2 x1 (be 4 n2) x2 31 _ ?hblk ?h1 ?h2 ?h3 ?e1 ?e2 ?e3 ?hs).mono ?_
  case hblk => have h := blk_new (w1.alloc (.cells (num8 n2).toArray 146)) (.cells #[.slice a1 n1 c1, .slice (some ⟨w1.heap.size, 4, none⟩) 4 4, .slice a2 n2 c2] 31); simpa [num8] using h
  case h1 => exact ((H1.out.keep hb1).keep (box_below _ _)).keep (box_below _ _)
  case h3 => exact ((H2.out.keep hb1).keep (box_below _ _)).keep (box_below _ _)
  case h2 => exact tail_row _ w1.heap.size n2 4 146 (by have := H.out; omega) (by omega) (blk_alloc (blk_new w1 _) _)
  case e1 => exact H.out.1
  case e2 => exact be_length _ _
  case e3 => exact H.out.2.1
  case hs => have := H.out; omega
  rintro _ w4 ⟨v, rfl, hown, hb4⟩
  have hb3 : Below w.heap.size w w4 := by
    have k1 := hb1.alloc hb1.size (.cells (num8 n2).toArray 146)
    have k2 := k1.alloc k1.size (.cells #[.slice a1 n1 c1, .slice (some ⟨w1.heap.size, 4, none⟩) 4 4, .slice a2 n2 c2] 31)
    exact below_then k2 hb4
  have hle : w.heap.size ≤ w1.heap.size := hb1.size
  have hlen : n1 + 4 + n2 = (x1 ++ be 4 n2 ++ x2).length := by have := H.out; simp [be_length]; omega
  rw [hlen] at hown
  have hby := own_lower hown (B := w.heap.size) (by simp; omega)
  have Hby := Lib.hid hby
  have Hb3 := Lib.hid hb3
  clear hby hb3 hown hlen hb4
  go_wp2_with fail
  go_ret2
  exact ⟨_, rfl, Hby.out, Hb3.out⟩
end Go.Proofs.Ytoaoldhajpbenaa

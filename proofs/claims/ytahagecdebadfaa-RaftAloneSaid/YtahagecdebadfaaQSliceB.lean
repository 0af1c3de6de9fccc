/- Texts that belong together, in one file: FldG, FldD, FldR, FldW, RefA, RefB, RefC, SliceB. No statement is proved here. -/
import Derived.Test.YtahagecdebadfaaQFldF
import Derived.Test.YtahagecdebadfaaFldC
import Derived.Deep.CutBlock
namespace Go.Proofs.Ytahagecdebadfaa
open Go.RowKit

theorem own_lower {w : World} {B B' size n : Nat} {e : TypeId} {v : Value} {xs : List Value} (h : w.ownsRow B' e size v n xs) (hB : B ≤ B') : w.ownsRow B e size v n xs := by
  refine ⟨h.1, ?_⟩
  rcases h.2 with h | ⟨g, cap, cur, h1, h2, h3⟩
  · exact .inl h
  · exact .inr ⟨g, cap, cur, h1, Nat.le_trans hB h2, h3⟩

/-- The tail of a number's eight bytes. -/
theorem tail_row (W : World) (b n size : Nat) (t : TypeId) (hn : n < 18446744073709551616) (h8 : size ≤ 8) (hb : W.heap[b]? = some (.cells (num8 n).toArray t (0, 0))) :
    Bytes (fun _ => True) W (.slice (some ⟨b, 8 - size, none⟩) size size) (be size n) := by
  have hl : (be size n).length = size := be_length _ _
  refine ⟨by simp [byteCells_length], .inr ⟨b, 8 - size, size, by rw [hl], by omega, by unfold maxLen; omega, trivial, (Array.getElem?_eq_some_iff.1 hb).1, fun i u hu => ?_⟩⟩
  rw [cell_of_row W b (8 - size + i) _ t (0, 0) hb]
  rw [← be_drop n size h8] at hu
  have e : byteCells ((be 8 n).drop (8 - size)) = (byteCells (be 8 n)).drop (8 - size) := by simp [byteCells]
  rw [e, ← num8_be n hn, List.getElem?_drop] at hu
  simpa using hu

set_option maxRecDepth 100000 in
set_option maxHeartbeats 2000000 in
theorem add_at1 {S1 S2 : Nat → Prop} (a1 a2 : Option Addr) (n1 n2 c1 c2 : Nat) (x1 x2 : List UInt8) (w : World)
    (h1 : Bytes S1 w (.slice a1 n1 c1) x1) (h2 : Bytes S2 w (.slice a2 n2 c2) x2) (hn1 : x1.length = n1) (hn2 : x2.length = n2) (hs1 : n1 ≤ 100000000) (hs2 : n2 < 256) :
    Calls Try.prog 121 #[.slice a1 n1 c1, .int .i64 1, .slice a2 n2 c2] w fun e w' => ∃ v, e = .returned (.tuple #[v, .int .i64 0]) ∧ w'.ownsRow w.heap.size 5 1 v (x1 ++ be 1 n2 ++ x2).length (byteCells (x1 ++ be 1 n2 ++ x2)) ∧ Below w.heap.size w w' := by
  obtain ⟨m, hm⟩ : ∃ m : Int, m = n2 := ⟨_, rfl⟩
  have q1 : ¬ (m > 65536) := by omega
  have q2 : 0 ≤ m := by omega
  have q3 : m < 4294967296 := by omega
  have hr : ∀ W, Calls Try.prog 141 #[.int .i64 1] W fun e w' => e = .returned (.bool true) ∧ W = w' := fun W => (rightSize_any 1 W).mono (by rintro _ _ ⟨rfl, rfl⟩; exact ⟨rfl, rfl⟩)
  have hf : ∀ W, Calls Try.prog 142 #[.int .u64 n2, .int .i64 1] W fun e w' => e = .returned (.bool true) ∧ W = w' := by
    intro W
    refine (fits_any n2 1 W (by omega) (by decide) (by decide)).mono ?_
    rintro _ _ ⟨rfl, rfl⟩
    exact ⟨by simp [fitsB]; omega, rfl⟩
  have Hr := Lib.hid hr
  have Hf := Lib.hid hf
  have Hm := Lib.hid hm
  have H1 := Lib.hid h1
  have H2 := Lib.hid h2
  have H := Lib.hid (And.intro hn1 (And.intro hn2 (And.intro hs1 hs2)))
  clear hr hf h1 h2 hn1 hn2 hs1 hs2
  go_enter Try.func121, Try.ntmps121
  go_wp2_with fail
  refine (Hr.out _).mono ?_
  rintro _ _ ⟨rfl, rfl⟩
  go_wp2_with fail
  refine (Hf.out _).mono ?_
  rintro _ _ ⟨rfl, rfl⟩
  go_wp2_with fail
  refine (number_any n2 _ (by have := H.out; omega)).mono ?_
  rintro _ w1 ⟨rfl, hb1⟩
  unfold num8
  go_wp2_with fail
  refine (concat3 (S1 := S1) (S2 := fun _ => True) (S3 := S2) (w1.heap.size + 1) a1 (some ⟨w1.heap.size, 7, none⟩) a2 n1 1 n2 c1 1 c2 x1 (be 1 n2) x2 31 _ ?hblk ?h1 ?h2 ?h3 ?e1 ?e2 ?e3 ?hs).mono ?_
  case hblk => have h := blk_new (w1.alloc (.cells (num8 n2).toArray 185)) (.cells #[.slice a1 n1 c1, .slice (some ⟨w1.heap.size, 7, none⟩) 1 1, .slice a2 n2 c2] 31); simpa [num8] using h
  case h1 => exact ((H1.out.keep hb1).keep (box_below _ _)).keep (box_below _ _)
  case h3 => exact ((H2.out.keep hb1).keep (box_below _ _)).keep (box_below _ _)
  case h2 => exact tail_row _ w1.heap.size n2 1 185 (by have := H.out; omega) (by omega) (blk_alloc (blk_new w1 _) _)
  case e1 => exact H.out.1
  case e2 => exact be_length _ _
  case e3 => exact H.out.2.1
  case hs => have := H.out; omega
  rintro _ w4 ⟨v, rfl, hown, hb4⟩
  have hb3 : Below w.heap.size w w4 := by
    have k1 := hb1.alloc hb1.size (.cells (num8 n2).toArray 185)
    have k2 := k1.alloc k1.size (.cells #[.slice a1 n1 c1, .slice (some ⟨w1.heap.size, 7, none⟩) 1 1, .slice a2 n2 c2] 31)
    exact below_then k2 hb4
  have hle : w.heap.size ≤ w1.heap.size := hb1.size
  have hlen : n1 + 1 + n2 = (x1 ++ be 1 n2 ++ x2).length := by have := H.out; simp [be_length]; omega
  rw [hlen] at hown
  have hby := own_lower hown (B := w.heap.size) (by simp; omega)
  have Hby := Lib.hid hby
  have Hb3 := Lib.hid hb3
  clear hby hb3 hown hlen hb4
  go_wp2_with fail
  go_ret2
  exact ⟨_, rfl, Hby.out, Hb3.out⟩
set_option maxRecDepth 100000 in
set_option maxHeartbeats 2000000 in
theorem add_at2 {S1 S2 : Nat → Prop} (a1 a2 : Option Addr) (n1 n2 c1 c2 : Nat) (x1 x2 : List UInt8) (w : World)
    (h1 : Bytes S1 w (.slice a1 n1 c1) x1) (h2 : Bytes S2 w (.slice a2 n2 c2) x2) (hn1 : x1.length = n1) (hn2 : x2.length = n2) (hs1 : n1 ≤ 100000000) (hs2 : n2 < 65536) :
    Calls Try.prog 121 #[.slice a1 n1 c1, .int .i64 2, .slice a2 n2 c2] w fun e w' => ∃ v, e = .returned (.tuple #[v, .int .i64 0]) ∧ w'.ownsRow w.heap.size 5 1 v (x1 ++ be 2 n2 ++ x2).length (byteCells (x1 ++ be 2 n2 ++ x2)) ∧ Below w.heap.size w w' := by
  obtain ⟨m, hm⟩ : ∃ m : Int, m = n2 := ⟨_, rfl⟩
  have q1 : ¬ (m > 65536) := by omega
  have q2 : 0 ≤ m := by omega
  have q3 : m < 4294967296 := by omega
  have hr : ∀ W, Calls Try.prog 141 #[.int .i64 2] W fun e w' => e = .returned (.bool true) ∧ W = w' := fun W => (rightSize_any 2 W).mono (by rintro _ _ ⟨rfl, rfl⟩; exact ⟨rfl, rfl⟩)
  have hf : ∀ W, Calls Try.prog 142 #[.int .u64 n2, .int .i64 2] W fun e w' => e = .returned (.bool true) ∧ W = w' := by
    intro W
    refine (fits_any n2 2 W (by omega) (by decide) (by decide)).mono ?_
    rintro _ _ ⟨rfl, rfl⟩
    exact ⟨by simp [fitsB]; omega, rfl⟩
  have Hr := Lib.hid hr
  have Hf := Lib.hid hf
  have Hm := Lib.hid hm
  have H1 := Lib.hid h1
  have H2 := Lib.hid h2
  have H := Lib.hid (And.intro hn1 (And.intro hn2 (And.intro hs1 hs2)))
  clear hr hf h1 h2 hn1 hn2 hs1 hs2
  go_enter Try.func121, Try.ntmps121
  go_wp2_with fail
  refine (Hr.out _).mono ?_
  rintro _ _ ⟨rfl, rfl⟩
  go_wp2_with fail
  refine (Hf.out _).mono ?_
  rintro _ _ ⟨rfl, rfl⟩
  go_wp2_with fail
  refine (number_any n2 _ (by have := H.out; omega)).mono ?_
  rintro _ w1 ⟨rfl, hb1⟩
  unfold num8
  go_wp2_with fail
  refine (concat3 (S1 := S1) (S2 := fun _ => True) (S3 := S2) (w1.heap.size + 1) a1 (some ⟨w1.heap.size, 6, none⟩) a2 n1 2 n2 c1 2 c2 x1 (be 2 n2) x2 31 _ ?hblk ?h1 ?h2 ?h3 ?e1 ?e2 ?e3 ?hs).mono ?_
  case hblk => have h := blk_new (w1.alloc (.cells (num8 n2).toArray 185)) (.cells #[.slice a1 n1 c1, .slice (some ⟨w1.heap.size, 6, none⟩) 2 2, .slice a2 n2 c2] 31); simpa [num8] using h
  case h1 => exact ((H1.out.keep hb1).keep (box_below _ _)).keep (box_below _ _)
  case h3 => exact ((H2.out.keep hb1).keep (box_below _ _)).keep (box_below _ _)
  case h2 => exact tail_row _ w1.heap.size n2 2 185 (by have := H.out; omega) (by omega) (blk_alloc (blk_new w1 _) _)
  case e1 => exact H.out.1
  case e2 => exact be_length _ _
  case e3 => exact H.out.2.1
  case hs => have := H.out; omega
  rintro _ w4 ⟨v, rfl, hown, hb4⟩
  have hb3 : Below w.heap.size w w4 := by
    have k1 := hb1.alloc hb1.size (.cells (num8 n2).toArray 185)
    have k2 := k1.alloc k1.size (.cells #[.slice a1 n1 c1, .slice (some ⟨w1.heap.size, 6, none⟩) 2 2, .slice a2 n2 c2] 31)
    exact below_then k2 hb4
  have hle : w.heap.size ≤ w1.heap.size := hb1.size
  have hlen : n1 + 2 + n2 = (x1 ++ be 2 n2 ++ x2).length := by have := H.out; simp [be_length]; omega
  rw [hlen] at hown
  have hby := own_lower hown (B := w.heap.size) (by simp; omega)
  have Hby := Lib.hid hby
  have Hb3 := Lib.hid hb3
  clear hby hb3 hown hlen hb4
  go_wp2_with fail
  go_ret2
  exact ⟨_, rfl, Hby.out, Hb3.out⟩
set_option maxRecDepth 100000 in
set_option maxHeartbeats 2000000 in
theorem add_at4 {S1 S2 : Nat → Prop} (a1 a2 : Option Addr) (n1 n2 c1 c2 : Nat) (x1 x2 : List UInt8) (w : World)
    (h1 : Bytes S1 w (.slice a1 n1 c1) x1) (h2 : Bytes S2 w (.slice a2 n2 c2) x2) (hn1 : x1.length = n1) (hn2 : x2.length = n2) (hs1 : n1 ≤ 100000000) (hs2 : n2 ≤ 65536) :
    Calls Try.prog 121 #[.slice a1 n1 c1, .int .i64 4, .slice a2 n2 c2] w fun e w' => ∃ v, e = .returned (.tuple #[v, .int .i64 0]) ∧ w'.ownsRow w.heap.size 5 1 v (x1 ++ be 4 n2 ++ x2).length (byteCells (x1 ++ be 4 n2 ++ x2)) ∧ Below w.heap.size w w' := by
  obtain ⟨m, hm⟩ : ∃ m : Int, m = n2 := ⟨_, rfl⟩
  have q1 : ¬ (m > 65536) := by omega
  have q2 : 0 ≤ m := by omega
  have q3 : m < 4294967296 := by omega
  have hr : ∀ W, Calls Try.prog 141 #[.int .i64 4] W fun e w' => e = .returned (.bool true) ∧ W = w' := fun W => (rightSize_any 4 W).mono (by rintro _ _ ⟨rfl, rfl⟩; exact ⟨rfl, rfl⟩)
  have hf : ∀ W, Calls Try.prog 142 #[.int .u64 n2, .int .i64 4] W fun e w' => e = .returned (.bool true) ∧ W = w' := by
    intro W
    refine (fits_any n2 4 W (by omega) (by decide) (by decide)).mono ?_
    rintro _ _ ⟨rfl, rfl⟩
    exact ⟨by simp [fitsB]; omega, rfl⟩
  have Hr := Lib.hid hr
  have Hf := Lib.hid hf
  have Hm := Lib.hid hm
  have H1 := Lib.hid h1
  have H2 := Lib.hid h2
  have H := Lib.hid (And.intro hn1 (And.intro hn2 (And.intro hs1 hs2)))
  clear hr hf h1 h2 hn1 hn2 hs1 hs2
  go_enter Try.func121, Try.ntmps121
  go_wp2_with fail
  refine (Hr.out _).mono ?_
  rintro _ _ ⟨rfl, rfl⟩
  go_wp2_with fail
  refine (Hf.out _).mono ?_
  rintro _ _ ⟨rfl, rfl⟩
  go_wp2_with fail
  refine (number_any n2 _ (by have := H.out; omega)).mono ?_
  rintro _ w1 ⟨rfl, hb1⟩
  unfold num8
  go_wp2_with fail
  refine (concat3 (S1 := S1) (S2 := fun _ => True) (S3 := S2) (w1.heap.size + 1) a1 (some ⟨w1.heap.size, 4, none⟩) a2 n1 4 n2 c1 4 c2 x1 (be 4 n2) x2 31 _ ?hblk ?h1 ?h2 ?h3 ?e1 ?e2 ?e3 ?hs).mono ?_
  case hblk => have h := blk_new (w1.alloc (.cells (num8 n2).toArray 185)) (.cells #[.slice a1 n1 c1, .slice (some ⟨w1.heap.size, 4, none⟩) 4 4, .slice a2 n2 c2] 31); simpa [num8] using h
  case h1 => exact ((H1.out.keep hb1).keep (box_below _ _)).keep (box_below _ _)
  case h3 => exact ((H2.out.keep hb1).keep (box_below _ _)).keep (box_below _ _)
  case h2 => exact tail_row _ w1.heap.size n2 4 185 (by have := H.out; omega) (by omega) (blk_alloc (blk_new w1 _) _)
  case e1 => exact H.out.1
  case e2 => exact be_length _ _
  case e3 => exact H.out.2.1
  case hs => have := H.out; omega
  rintro _ w4 ⟨v, rfl, hown, hb4⟩
  have hb3 : Below w.heap.size w w4 := by
    have k1 := hb1.alloc hb1.size (.cells (num8 n2).toArray 185)
    have k2 := k1.alloc k1.size (.cells #[.slice a1 n1 c1, .slice (some ⟨w1.heap.size, 4, none⟩) 4 4, .slice a2 n2 c2] 31)
    exact below_then k2 hb4
  have hle : w.heap.size ≤ w1.heap.size := hb1.size
  have hlen : n1 + 4 + n2 = (x1 ++ be 4 n2 ++ x2).length := by have := H.out; simp [be_length]; omega
  rw [hlen] at hown
  have hby := own_lower hown (B := w.heap.size) (by simp; omega)
  have Hby := Lib.hid hby
  have Hb3 := Lib.hid hb3
  clear hby hb3 hown hlen hb4
  go_wp2_with fail
  go_ret2
  exact ⟨_, rfl, Hby.out, Hb3.out⟩
end Go.Proofs.Ytahagecdebadfaa

namespace Go.Proofs.Ytahagecdebadfaa
open Go.RowKit

set_option maxRecDepth 100000 in
set_option maxHeartbeats 1000000 in
theorem wend_ok (B g : Nat) (xs : List UInt8) (w : World) (h : WrAt 181 B w g xs 0) (hx : xs.length ≤ 1000000000) :
    Calls Try.prog 61 #[.pointer (some ⟨g, 0, none⟩)] w fun e w' => ∃ v, e = .returned (.tuple #[v, .int .i64 0]) ∧ Bytes (w.heap.size ≤ ·) w' v xs ∧ Below w.heap.size w w' := by
  obtain ⟨hB, v, hblk, hown⟩ := h
  obtain ⟨c0, c1, f0, f1⟩ := cells2 hblk
  have hby : Bytes (B ≤ ·) w v xs := RowAt.of_own hown
  obtain ⟨A, c, rfl⟩ := hby.slice
  have Hby := Lib.hid hby
  clear hown hby hblk
  go_enter Try.func61, Try.ntmps61
  go_wp2_with fail
  refine (clone_bytes _ _ xs Hby.out (by omega)).mono ?_
  rintro e w1 ⟨v', rfl, hown, hb⟩
  have hr := RowAt.of_own hown
  obtain ⟨A', c', rfl⟩ := hr.slice
  have Hr := Lib.hid hr
  clear hr hown
  go_wp2_with fail
  go_ret2
  exact ⟨_, rfl, Hr.out, hb⟩

/-- An error stands. -/
theorem wend_no (B g : Nat) (xs : List UInt8) (er : Int) (w : World) (h : WrAt 181 B w g xs er) (he : er ≠ 0) :
    Calls Try.prog 61 #[.pointer (some ⟨g, 0, none⟩)] w fun e w' => e = .returned (.tuple #[.slice none 0 0, .int .i64 er]) ∧ Below w.heap.size w w' := by
  obtain ⟨hB, v, hblk, hown⟩ := h
  obtain ⟨c0, c1, f0, f1⟩ := cells2 hblk
  have heb : (er == 0) = false := by simpa using he
  have heb2 : (er != 0) = true := by simpa using he
  clear hown hblk he
  go_enter Try.func61, Try.ntmps61
  go_wp2_with fail
  go_quiet (fail)
  go_wp2_with fail
  go_ret2
  exact ⟨rfl, below_drewN (Below.refl _ _) _⟩
end Go.Proofs.Ytahagecdebadfaa

namespace Go.Proofs.Ytahagecdebadfaa
open Go.RowKit

/-- A reader in block g: its bytes lie in S, where its own block is not; and its error. -/
def RdAt (T : TypeId) (S : Nat → Prop) (w : World) (g : Nat) (xs : List UInt8) (er : Int) : Prop :=
  ¬ S g ∧ ∃ v, w.heap[g]? = some (.cells #[v, .int .i64 er] T (0, 0)) ∧ Bytes S w v xs

theorem grown_refl (w : World) (r : Option Nat) : w.grownBy w r := ⟨rfl, rfl, rfl, Nat.le_refl _, fun _ _ _ => rfl⟩
theorem grown_set {w w' : World} {g : Nat} (h : w.grownBy w' (some g)) (k : Nat) (u : Value) : w.grownBy (w'.setCell ⟨g, k, none⟩ u) (some g) :=
  ⟨h.os, h.tape, h.output, by simp [World.setCell]; exact h.size, fun i hi hne => (Below.heap_setCell w' ⟨g, k, none⟩ u i (fun e => hne (by rw [e]))).trans (h.block i hi hne)⟩
theorem grown_below {w w1 w2 : World} {r : Option Nat} (h : w.grownBy w1 r) (k : Below w1.heap.size w1 w2) : w.grownBy w2 r :=
  ⟨k.os.trans h.os, k.tape.trans h.tape, k.output.trans h.output, Nat.le_trans h.size k.size, fun i hi hne => (k.block i (Nat.lt_of_lt_of_le hi h.size)).trans (h.block i hi hne)⟩
theorem grown_of_below {w w1 : World} (k : Below w.heap.size w w1) (r : Option Nat) : w.grownBy w1 r := grown_below (grown_refl w r) k
theorem grown_trans {w w1 w2 : World} {r : Option Nat} (h : w.grownBy w1 r) (k : w1.grownBy w2 r) : w.grownBy w2 r :=
  ⟨k.os.trans h.os, k.tape.trans h.tape, k.output.trans h.output, Nat.le_trans h.size k.size, fun i hi hne => (k.block i (Nat.lt_of_lt_of_le hi h.size) hne).trans (h.block i hi hne)⟩
theorem same_grownG {w w' : World} {g : Nat} (h : w.grownBy w' (some g)) {S : Nat → Prop} (hS : ¬ S g) : Same S w w' :=
  ⟨h.size, fun b hb hlt => h.block b hlt (fun e => by injection e with e; exact hS (e ▸ hb))⟩

theorem Bytes.drop {S : Nat → Prop} {w : World} {b o n c : Nat} {xs : List UInt8} (h : Bytes S w (.slice (some ⟨b, o, none⟩) n c) xs) (k c' : Nat) (hk : k ≤ n) (hc : n - k ≤ c') (hc' : c' ≤ maxLen) :
    Bytes S w (.slice (some ⟨b, o + k, none⟩) (n - k) c') (xs.drop k) := by
  have hn : n = xs.length := by obtain ⟨A, c1, e⟩ := h.slice; injection e
  subst hn
  have := RowAt.cut (sz := 1) h k (xs.length - k) c' (by omega) hc hc'
  have e : (xs.drop k).length = xs.length - k := by simp
  have e2 : ((byteCells xs).drop (k * 1)).take ((xs.length - k) * 1) = byteCells (xs.drop k) := by
    rw [Nat.mul_one, Nat.mul_one, List.take_of_length_le (by simp [byteCells_length])]
    simp [byteCells]
  rw [e2, Nat.mul_one] at this
  unfold Bytes
  rw [e]
  exact this
theorem Bytes.mid {S : Nat → Prop} {w : World} {b o n c : Nat} {xs : List UInt8} (h : Bytes S w (.slice (some ⟨b, o, none⟩) n c) xs) (lo k c' : Nat) (hk : lo + k ≤ n) (hc : k ≤ c') (hc' : c' ≤ maxLen) :
    Bytes S w (.slice (some ⟨b, o + lo, none⟩) k c') ((xs.drop lo).take k) := by
  have hn : n = xs.length := by obtain ⟨A, c1, e⟩ := h.slice; injection e
  subst hn
  have := RowAt.cut (sz := 1) h lo k c' hk hc hc'
  have e : ((xs.drop lo).take k).length = k := by simp; omega
  have e2 : ((byteCells xs).drop (lo * 1)).take (k * 1) = byteCells ((xs.drop lo).take k) := by
    rw [Nat.mul_one, Nat.mul_one]
    simp [byteCells]
  rw [e2, Nat.mul_one] at this
  unfold Bytes
  rw [e]
  exact this
theorem Bytes.none {S : Nat → Prop} {w : World} {a : Addr} {n c : Nat} {xs : List UInt8} (h : xs.length = 0) (hn : n = 0) : Bytes S w (.slice (some a) n c) xs := by
  subst hn
  exact ⟨by simp [byteCells_length], .inl ⟨h, .inr ⟨a, c, rfl⟩⟩⟩

theorem rok_any (S : Nat → Prop) (g : Nat) (xs : List UInt8) (er : Int) (w : World) (h : RdAt 182 S w g xs er) :
    Calls Try.prog 126 #[.pointer (some ⟨g, 0, none⟩)] w fun e w' => e = .returned (.bool (er == 0)) ∧ w = w' := by
  obtain ⟨hB, v, hblk, hby⟩ := h
  obtain ⟨c0, c1, f0, f1⟩ := cells2 hblk
  clear hblk hby
  go_enter Try.func126, Try.ntmps126
  go_wp2
  go_ret
  exact ⟨rfl, rfl⟩

/-- Where an error stands nothing is read. -/
theorem rnum_err (S : Nat → Prop) (g : Nat) (xs : List UInt8) (er : Int) (size : Int) (w : World) (h : RdAt 182 S w g xs er) (he : er ≠ 0) :
    Calls Try.prog 82 #[.pointer (some ⟨g, 0, none⟩), .int .i64 size] w fun e w' => e = .returned (.int .i64 0) ∧ w = w' := by
  have hk := rok_any S g xs er w h
  have hb : (er == 0) = false := by simpa using he
  rw [hb] at hk
  have Hk := Lib.hid hk
  clear hk h he hb
  go_enter Try.func82, Try.ntmps82
  go_wp2_with (go_at_call 126; refine Hk.out.mono ?_; rintro _ _ ⟨rfl, rfl⟩)
  go_ret
  exact ⟨rfl, rfl⟩

theorem rnum_short (S : Nat → Prop) (g : Nat) (xs : List UInt8) (size : Nat) (w : World) (h : RdAt 182 S w g xs 0) (h1 : 1 ≤ size) (h8 : size ≤ 8) (hx : xs.length < size) :
    Calls Try.prog 82 #[.pointer (some ⟨g, 0, none⟩), .int .i64 size] w fun e w' => e = .returned (.int .i64 0) ∧ RdAt 182 S w' g xs 10 ∧ w.grownBy w' (some g) := by
  have hk := rok_any S g xs 0 w h
  have Hk := Lib.hid hk
  have H := Lib.hid h
  obtain ⟨hB, v, hblk, hby⟩ := h
  obtain ⟨c0, c1, f0, f1⟩ := cells2 hblk
  obtain ⟨A, c, rfl⟩ := hby.slice
  have hg := get_no A xs.length c 0 size w (by omega) (by omega) (by omega) (by omega) (by omega) (by simp [thereB]; omega)
  have Hg := Lib.hid hg
  have Hblk := Lib.hid hblk
  clear hk hby hblk hg
  have s1 : 1 ≤ (size : Int) := by omega
  have s8 : (size : Int) ≤ 8 := by omega
  go_enter Try.func82, Try.ntmps82
  go_wp2_with (first | (go_at_call 126; refine Hk.out.mono ?_; rintro _ _ ⟨rfl, rfl⟩) | (go_at_call 81; refine Hg.out.mono ?_; rintro _ _ ⟨rfl, rfl⟩))
  go_ret
  refine ⟨rfl, ?_, grown_set (grown_refl _ _) _ _⟩
  obtain ⟨hB', v', hblk', hby'⟩ := H.out
  refine ⟨hB', _, blk_put1 Hblk.out _, ?_⟩
  have e : v' = .slice A xs.length c := by
    have := hblk'.symm.trans Hblk.out
    simpa using this
  exact (e ▸ hby').keepS ((Same.refl _ _).setCell (by simpa using hB') _)

theorem rnum_ok (S : Nat → Prop) (g : Nat) (xs : List UInt8) (size : Nat) (w : World) (h : RdAt 182 S w g xs 0) (h1 : 1 ≤ size) (h8 : size ≤ 7) (hx : size ≤ xs.length) :
    Calls Try.prog 82 #[.pointer (some ⟨g, 0, none⟩), .int .i64 size] w fun e w' => e = .returned (.int .i64 (beVal (xs.take size))) ∧ RdAt 182 S w' g (xs.drop size) 0 ∧ w.grownBy w' (some g) := by
  have hk := rok_any S g xs 0 w h
  have Hk := Lib.hid hk
  obtain ⟨hB, v, hblk, hby⟩ := h
  obtain ⟨c0, c1, f0, f1⟩ := cells2 hblk
  have hg := get_yes v xs 0 size w hby h1 (by omega) (by omega)
  have Hby := Lib.hid hby
  have hle := hby.le
  obtain ⟨b, o, c, rfl, hn, hc, -, hb, hcell⟩ := hby.form (by omega)
  rw [List.drop_zero] at hg
  have Hg := Lib.hid hg
  have Hblk := Lib.hid hblk
  have hbl := beVal_lt (xs.take size)
  have hkk : (xs.take size).length = size := by simp; omega
  rw [hkk] at hbl
  have hpw : 256 ^ size ≤ 256 ^ 7 := Nat.pow_le_pow_right (by omega) (by omega)
  have hm : beVal (xs.take size) < 72057594037927936 := Nat.lt_of_lt_of_le hbl hpw
  unfold maxLen at hc
  clear hk hby hblk hg hbl hkk hpw hcell hle
  generalize beVal (xs.take size) = m at *
  have s1 : 1 ≤ (size : Int) := by omega
  have s8 : (size : Int) ≤ 8 := by omega
  have s9 : (size : Int) ≤ xs.length := by omega
  have s10 : (size : Int) ≤ c := by omega
  have s11 : (xs.length : Int) ≤ c := by omega
  obtain ⟨M, hM⟩ : ∃ M : Int, M = m := ⟨_, rfl⟩
  have m1 : 0 ≤ M := by omega
  have m2 : M < 72057594037927936 := by omega
  rw [← hM] at Hg
  rw [← hM]
  clear hM hm
  go_enter Try.func82, Try.ntmps82
  go_wp2_with (first | (go_at_call 126; refine Hk.out.mono ?_; rintro _ _ ⟨rfl, rfl⟩) | (go_at_call 81; refine Hg.out.mono ?_; rintro _ _ ⟨rfl, rfl⟩))
  · go_ret
    refine ⟨rfl, ⟨hB, _, blk_put Hblk.out _, ?_⟩, grown_set (grown_refl _ _) _ _⟩
    exact (Bytes.none (by simp; omega) (by omega)).keepS ((Same.refl _ _).setCell hB _)
  · go_ret
    refine ⟨rfl, ⟨hB, _, blk_put Hblk.out _, ?_⟩, grown_set (grown_refl _ _) _ _⟩
    exact (Bytes.drop Hby.out size (c - size) (by omega) (by omega) (by unfold maxLen; omega)).keepS ((Same.refl _ _).setCell hB _)

/-- What a piece behind its length is: its bytes, where it ends, what is wrong. -/
def cutOf (size : Nat) (xs : List UInt8) : List UInt8 × Nat × Int :=
  if xs.length < size then ([], 0, 10)
  else if beVal (xs.take size) > 65536 then ([], 0, 3)
  else if xs.length - size < beVal (xs.take size) then ([], 0, 10)
  else ((xs.drop size).take (beVal (xs.take size)), size + beVal (xs.take size), 0)

theorem ret3 {u : Value} {a b c : Int} (h : a = b) : Ending.returned (.tuple #[u, .int .i64 a, .int .i64 c]) = Ending.returned (.tuple #[u, .int .i64 b, .int .i64 c]) := by rw [h]
theorem rightSize_yes (size : Nat) (hs : size = 1 ∨ size = 2 ∨ size = 4) (w : World) :
    Calls Try.prog 141 #[.int .i64 size] w fun e w' => e = .returned (.bool true) ∧ w = w' := by
  refine (rightSize_any size w).mono ?_
  rintro _ _ ⟨rfl, rfl⟩
  refine ⟨?_, rfl⟩
  rcases hs with rfl | rfl | rfl <;> rfl

theorem cut_any (S : Nat → Prop) (v : Value) (xs : List UInt8) (size : Nat) (w : World) (hv : Bytes S w v xs) (hs : size = 1 ∨ size = 2 ∨ size = 4) :
    Calls Try.prog 127 #[v, .int .i64 size] w fun e w' => ∃ u, e = .returned (.tuple #[u, .int .i64 (cutOf size xs).2.1, .int .i64 (cutOf size xs).2.2]) ∧ w'.ownsRow w.heap.size 5 1 u (cutOf size xs).1.length (byteCells (cutOf size xs).1) ∧ Below w.heap.size w w' := by
  have hr := rightSize_yes size hs
  have Hr := Lib.hid hr
  have hle := hv.le
  unfold maxLen at hle
  clear hr
  by_cases c1 : xs.length < size
  · obtain ⟨A, c, rfl⟩ := hv.slice
    have hg := get_no A xs.length c 0 size w (by omega) (by omega) (by omega) (by omega) (by omega) (by simp [thereB]; omega)
    have Hg := Lib.hid hg
    have e : cutOf size xs = ([], 0, 10) := by simp [cutOf, c1]
    rw [e]
    clear hg e
    go_enter Try.func127, Try.ntmps127
    go_wp2_with (first | (go_at_call 141; refine (Hr.out _).mono ?_; rintro _ _ ⟨rfl, rfl⟩) | (go_at_call 81; refine Hg.out.mono ?_; rintro _ _ ⟨rfl, rfl⟩))
    go_ret3
    exact ⟨_, rfl, World.ownsRow_nil _ _ _ _, Below.refl _ _⟩
  · have hg := get_yes v xs 0 size w hv (by omega) (by omega) (by omega)
    rw [List.drop_zero] at hg
    have Hg := Lib.hid hg
    have Hv := Lib.hid hv
    obtain ⟨b, o, c, rfl, hn, hc, -, hb, hcell⟩ := hv.form (by omega)
    have ecut : cutOf size xs = if beVal (xs.take size) > 65536 then ([], 0, 3) else if xs.length - size < beVal (xs.take size) then ([], 0, 10)
      else ((xs.drop size).take (beVal (xs.take size)), size + beVal (xs.take size), 0) := by unfold cutOf; rw [if_neg c1]
    rw [ecut]
    have hbl := beVal_lt (xs.take size)
    have hkk : (xs.take size).length = size := by simp; omega
    rw [hkk] at hbl
    have hpw : 256 ^ size ≤ 256 ^ 7 := Nat.pow_le_pow_right (by omega) (by omega)
    have hm : beVal (xs.take size) < 72057594037927936 := Nat.lt_of_lt_of_le hbl hpw
    unfold maxLen at hc
    clear hg hbl hkk hpw hcell ecut hv
    generalize beVal (xs.take size) = m at *
    obtain ⟨M, hM⟩ : ∃ M : Int, M = m := ⟨_, rfl⟩
    rw [← hM] at Hg
    have s1 : 1 ≤ (size : Int) := by omega
    have s8 : (size : Int) ≤ 4 := by omega
    have s9 : (size : Int) ≤ xs.length := by omega
    have s10 : (size : Int) ≤ c := by omega
    have s11 : (xs.length : Int) ≤ c := by omega
    have m1 : 0 ≤ M := by omega
    have m2 : M < 72057594037927936 := by omega
    by_cases c2 : m > 65536
    · rw [if_pos c2]
      have c2' : 65536 < M := by omega
      have HM := Lib.hid hM
      clear hM hm hs
      go_enter Try.func127, Try.ntmps127
      go_wp2_with (first | (go_at_call 141; refine (Hr.out _).mono ?_; rintro _ _ ⟨rfl, rfl⟩) | (go_at_call 81; refine Hg.out.mono ?_; rintro _ _ ⟨rfl, rfl⟩))
      go_ret3
      exact ⟨_, rfl, World.ownsRow_nil _ _ _ _, Below.refl _ _⟩
    · rw [if_neg c2]
      have c2' : M ≤ 65536 := by omega
      by_cases c3 : xs.length - size < m
      · rw [if_pos c3]
        have c3' : (xs.length : Int) - size < M := by omega
        have HM := Lib.hid hM
        clear hM hm hs
        go_enter Try.func127, Try.ntmps127
        go_wp2_with (first | (go_at_call 141; refine (Hr.out _).mono ?_; rintro _ _ ⟨rfl, rfl⟩) | (go_at_call 81; refine Hg.out.mono ?_; rintro _ _ ⟨rfl, rfl⟩))
        go_ret3
        exact ⟨_, rfl, World.ownsRow_nil _ _ _ _, Below.refl _ _⟩
      · rw [if_neg c3]
        have c3' : ¬ ((xs.length : Int) - size < M) := by omega
        have c4 : (size : Int) + M ≤ xs.length := by omega
        have c5 : (size : Int) + M ≤ c := by omega
        have HM := Lib.hid hM
        obtain ⟨p, hp⟩ : ∃ p, p = (xs.drop size).take m := ⟨_, rfl⟩
        rw [← hp]
        have Hp := Lib.hid hp
        clear hM hm hs hp
        go_enter Try.func127, Try.ntmps127
        go_wp2_with (first | (go_at_call 141; refine (Hr.out _).mono ?_; rintro _ _ ⟨rfl, rfl⟩) | (go_at_call 81; refine Hg.out.mono ?_; rintro _ _ ⟨rfl, rfl⟩))
        all_goals
          refine (clone_bytes (S := S) _ _ p ?hb ?hl).mono ?_
          case hl => have := HM.out; rw [Hp.out]; simp; omega
          case hb => rw [Hp.out]; have hM := HM.out; first | (have := Bytes.mid Hv.out size m (c - size) (by omega) (by omega) (by unfold maxLen; omega); rw [hM]; rwa [show ((size : Int) + m).toNat - size = m by omega]) | exact Bytes.none (by simp; omega) (by omega)
          rintro _ w1 ⟨u, rfl, hown, hbl⟩
          have Hown := Lib.hid hown
          obtain ⟨A1, c1, rfl⟩ := (RowAt.of_own hown).slice
          clear hown
          go_wp2_with fail
          go_ret3
          exact ⟨_, ret3 (by have := HM.out; omega), Hown.out, hbl⟩

theorem rbytes_err (S : Nat → Prop) (g : Nat) (xs : List UInt8) (er : Int) (size : Int) (w : World) (h : RdAt 182 S w g xs er) (he : er ≠ 0) :
    Calls Try.prog 84 #[.pointer (some ⟨g, 0, none⟩), .int .i64 size] w fun e w' => e = .returned (.slice none 0 0) ∧ w = w' := by
  have hk := rok_any S g xs er w h
  have hb : (er == 0) = false := by simpa using he
  rw [hb] at hk
  have Hk := Lib.hid hk
  clear hk h he hb
  go_enter Try.func84, Try.ntmps84
  go_wp2_with (go_at_call 126; refine Hk.out.mono ?_; rintro _ _ ⟨rfl, rfl⟩)
  go_ret
  exact ⟨rfl, rfl⟩

theorem grown_cell {w w' : World} {r : Option Nat} (h : w.grownBy w' r) {p : Addr} {v : Value} (hr : r ≠ some p.block) (hc : w.cell? p = some v) : w'.cell? p = some v := by
  have := World.cell?_of_block (w := w) (h.block p.block (block_lt hc) (fun e => hr e.symm))
  rw [this, hc]

/-- What is wrong of a piece. -/
theorem rbytes_no (S : Nat → Prop) (g : Nat) (xs : List UInt8) (size : Nat) (w : World) (h : RdAt 182 S w g xs 0) (hs : size = 1 ∨ size = 2 ∨ size = 4) (he : (cutOf size xs).2.2 ≠ 0) :
    Calls Try.prog 84 #[.pointer (some ⟨g, 0, none⟩), .int .i64 size] w fun e w' => e = .returned (.slice none 0 0) ∧ RdAt 182 S w' g xs (cutOf size xs).2.2 ∧ w.grownBy w' (some g) := by
  have hk := rok_any S g xs 0 w h
  have Hk := Lib.hid hk
  obtain ⟨hB, v, hblk, hby⟩ := h
  obtain ⟨c0, c1, f0, f1⟩ := cells2 hblk
  have hcut := cut_any S v xs size w hby hs
  have Hcut := Lib.hid hcut
  have Hblk := Lib.hid hblk
  have Hby := Lib.hid hby
  have he' : ((cutOf size xs).2.2 == 0) = false := by simpa using he
  have he2 : ((cutOf size xs).2.2 != 0) = true := by simpa using he
  obtain ⟨A, c, rfl⟩ := hby.slice
  clear hk hby hblk hcut he
  generalize (cutOf size xs).2.2 = er at *
  go_enter Try.func84, Try.ntmps84
  go_wp2_with (go_at_call 126; refine Hk.out.mono ?_; rintro _ _ ⟨rfl, rfl⟩)
  refine Hcut.out.mono ?_
  rintro _ w1 ⟨u, rfl, -, hb⟩
  have hblk1 := blk_keep hb Hblk.out
  obtain ⟨d0, d1, e0, e1⟩ := cells2 hblk1
  have Hblk1 := Lib.hid hblk1
  clear hblk1
  go_wp2_with fail
  go_ret
  exact ⟨rfl, ⟨hB, _, blk_put1 Hblk1.out _, ((Hby.out.keep hb).keepS ((Same.refl _ _).setCell hB _))⟩, grown_set (grown_of_below hb _) _ _⟩

theorem cutOf_le (size : Nat) (xs : List UInt8) (he : (cutOf size xs).2.2 = 0) : (cutOf size xs).2.1 ≤ xs.length := by
  unfold cutOf at *
  by_cases h1 : xs.length < size
  · rw [if_pos h1] at he; simp at he
  · rw [if_neg h1] at he ⊢
    by_cases h2 : beVal (xs.take size) > 65536
    · rw [if_pos h2] at he; simp at he
    · rw [if_neg h2] at he ⊢
      by_cases h3 : xs.length - size < beVal (xs.take size)
      · rw [if_pos h3] at he; simp at he
      · rw [if_neg h3]
        show size + _ ≤ _
        omega
theorem cutOf_len (size : Nat) (xs : List UInt8) : (cutOf size xs).1.length ≤ 65536 := by
  unfold cutOf
  by_cases h1 : xs.length < size
  · rw [if_pos h1]; simp
  · rw [if_neg h1]
    by_cases h2 : beVal (xs.take size) > 65536
    · rw [if_pos h2]; simp
    · rw [if_neg h2]
      by_cases h3 : xs.length - size < beVal (xs.take size)
      · rw [if_pos h3]; simp
      · rw [if_neg h3]
        simp
        omega
theorem own_far {w : World} {B size n g k : Nat} {e : TypeId} {v : Value} {xs : List Value} (h : w.ownsRow B e size v n xs) (hg : g < B) (u : Value) : (w.setCell ⟨g, k, none⟩ u).ownsRow B e size v n xs := by
  refine h.kept (row := some g) ⟨rfl, rfl, rfl, by simp [World.setCell], fun i hi hne => Below.heap_setCell w ⟨g, k, none⟩ u i (fun e => hne (by rw [e]))⟩ (.inr fun e => ?_)
  have := own_blk_ge h _ e
  omega

theorem rbytes_ok (S : Nat → Prop) (g : Nat) (xs : List UInt8) (size : Nat) (w : World) (h : RdAt 182 S w g xs 0) (hs : size = 1 ∨ size = 2 ∨ size = 4) (he : (cutOf size xs).2.2 = 0) :
    Calls Try.prog 84 #[.pointer (some ⟨g, 0, none⟩), .int .i64 size] w fun e w' => ∃ u, e = .returned u ∧ w'.ownsRow w.heap.size 5 1 u (cutOf size xs).1.length (byteCells (cutOf size xs).1) ∧ RdAt 182 S w' g (xs.drop (cutOf size xs).2.1) 0 ∧ w.grownBy w' (some g) := by
  have hk := rok_any S g xs 0 w h
  have Hk := Lib.hid hk
  obtain ⟨hB, v, hblk, hby⟩ := h
  obtain ⟨c0, c1, f0, f1⟩ := cells2 hblk
  have hgs := block_lt c0
  have hcut := cut_any S v xs size w hby hs
  rw [he] at hcut
  have hend := cutOf_le size xs he
  have hl0 : 0 < xs.length := by
    have : ¬ xs.length < size := by
      intro hh
      simp [cutOf, hh] at he
    omega
  have Hcut := Lib.hid hcut
  have Hblk := Lib.hid hblk
  have Hby := Lib.hid hby
  have hle := hby.le
  obtain ⟨b, o, c, rfl, hn, hc, -, hb, hcell⟩ := hby.form hl0
  unfold maxLen at hc
  clear hk hby hblk hcut he hcell hle hs
  generalize (cutOf size xs).2.1 = en at *
  generalize (cutOf size xs).1 = p at *
  obtain ⟨M, hM⟩ : ∃ M : Int, M = en := ⟨_, rfl⟩
  rw [← hM] at Hcut
  have s1 : 0 ≤ M := by omega
  have s9 : M ≤ xs.length := by omega
  have s10 : M ≤ c := by omega
  have s11 : (xs.length : Int) ≤ c := by omega
  have HM := Lib.hid hM
  clear hM
  go_enter Try.func84, Try.ntmps84
  go_wp2_with (go_at_call 126; refine Hk.out.mono ?_; rintro _ _ ⟨rfl, rfl⟩)
  refine Hcut.out.mono ?_
  rintro _ w1 ⟨u, rfl, hown, hb1⟩
  have hblk1 := blk_keep hb1 Hblk.out
  obtain ⟨d0, d1, e0, e1⟩ := cells2 hblk1
  have Hblk1 := Lib.hid hblk1
  have Hown := Lib.hid hown
  obtain ⟨A1, cc, rfl⟩ := (RowAt.of_own hown).slice
  clear hblk1 hown
  go_wp2_with fail
  all_goals
    go_ret
    obtain rfl := HM.out
    refine ⟨_, rfl, own_far (own_far Hown.out hgs _) hgs _, ⟨hB, _, blk_put (blk_put1 Hblk1.out _) _, ?_⟩, grown_set (grown_set (grown_of_below hb1 _) _ _) _ _⟩
    refine Bytes.keepS (w := w1) ?_ (((Same.refl _ _).setCell hB _).setCell hB _)
    simp only [Int.toNat_natCast] at *
    first
    | exact Bytes.none (by simp; omega) (by omega)
    | exact Bytes.drop (Hby.out.keep hb1) en (c - en) (by omega) (by omega) (by unfold maxLen; omega)

theorem newReader_any (S : Nat → Prop) (v : Value) (xs : List UInt8) (w : World) (hv : Bytes S w v xs) (h47 : xs.length ≤ 140737488355328) :
    Calls Try.prog 65 #[v] w fun e w' => ∃ g, e = .returned (.pointer (some ⟨g, 0, none⟩)) ∧ w.heap.size ≤ g ∧ RdAt 182 (fun b => w.heap.size ≤ b ∧ b ≠ g) w' g xs 0 ∧ Below w.heap.size w w' := by
  have Hv := Lib.hid hv
  obtain ⟨A, c, rfl⟩ := hv.slice
  clear hv
  go_enter Try.func65, Try.ntmps65
  go_wp2_with fail
  refine (clone_bytes _ _ xs Hv.out h47).mono ?_
  rintro _ w1 ⟨u, rfl, hown, hb⟩
  have hr := RowAt.of_own hown
  obtain ⟨A1, c1, rfl⟩ := hr.slice
  have Hr := Lib.hid hr
  have hs := hb.size
  clear hown hr
  go_wp2_with fail
  go_ret
  refine ⟨w1.heap.size, rfl, hs, ⟨by simp, _, blk_new _ _, ?_⟩, hb.alloc hs _⟩
  exact Bytes.keep (RowAt.mono Hr.out fun b hlt h => ⟨h, by omega⟩) (box_below _ _)

def endOf (xs : List UInt8) (er : Int) : Int := if er = 0 then (if xs.length = 0 then 0 else 11) else er
theorem rend_any (S : Nat → Prop) (g : Nat) (xs : List UInt8) (er : Int) (w : World) (h : RdAt 182 S w g xs er) :
    Calls Try.prog 67 #[.pointer (some ⟨g, 0, none⟩)] w fun e w' => e = .returned (.int .i64 (endOf xs er)) ∧ Below w.heap.size w w' := by
  obtain ⟨hB, v, hblk, hby⟩ := h
  obtain ⟨c0, c1, f0, f1⟩ := cells2 hblk
  obtain ⟨A, c, rfl⟩ := hby.slice
  clear hblk hby
  by_cases he : er = 0
  · subst he
    by_cases hx : xs.length = 0
    · have e : endOf xs 0 = 0 := by simp [endOf, hx]
      rw [e]
      rw [hx] at c0
      go_enter Try.func67, Try.ntmps67
      go_wp2
      go_ret
      exact ⟨rfl, Below.refl _ _⟩
    · have e : endOf xs 0 = 11 := by simp [endOf, hx]
      rw [e]
      have hx2 : 0 < xs.length := by omega
      go_enter Try.func67, Try.ntmps67
      go_wp2
      go_ret
      exact ⟨rfl, Below.refl _ _⟩
  · have e : endOf xs er = er := by simp [endOf, he]
    rw [e]
    have hb : (er == 0) = false := by simpa using he
    clear e he
    go_enter Try.func67, Try.ntmps67
    go_wp2
    go_ret
    exact ⟨rfl, Below.refl _ _⟩
end Go.Proofs.Ytahagecdebadfaa

namespace Go.Proofs.Ytahagecdebadfaa
open Go.RowKit

theorem wbytes_of {S1 : Nat → Prop} (S : Nat → Prop) (B g : Nat) (xs p : List UInt8) (size : Int) (y : Value) (w : World) (h : WrS 181 S B w g xs 0) (hS : ∀ b, S b → b < w.heap.size) (hp : Bytes S1 w y p) (ys : List UInt8)
    (hadd : ∀ v, Bytes (B ≤ ·) w v xs → Calls Try.prog 121 #[v, .int .i64 size, y] w fun e w' => ∃ u, e = .returned (.tuple #[u, .int .i64 0]) ∧ w'.ownsRow w.heap.size 5 1 u ys.length (byteCells ys) ∧ Below w.heap.size w w') :
    Calls Try.prog 75 #[.pointer (some ⟨g, 0, none⟩), .int .i64 size, y] w fun e w' => (∃ v, e = .returned v) ∧ WrS 181 S B w' g ys 0 ∧ Same S w w' ∧ Below B w w' := by
  obtain ⟨hB, hSg, v, hblk, hown, hvS⟩ := h
  have HS := Lib.hid hS
  clear hS hvS
  obtain ⟨c0, c1, f0, f1⟩ := cells2 hblk
  have hgs := block_lt c0
  have Hblk := Lib.hid hblk
  have hr := RowAt.of_own hown
  obtain ⟨A, c, rfl⟩ := hr.slice
  have Hadd := Lib.hid (hadd _ hr)
  obtain ⟨A2, c2, rfl⟩ := hp.slice
  clear hblk hown hr hadd hp
  go_enter Try.func75, Try.ntmps75
  go_wp2_with fail
  refine Hadd.out.mono ?_
  rintro _ w1 ⟨u, rfl, hown1, hb1⟩
  have hblk1 := blk_keep hb1 Hblk.out
  obtain ⟨d0, d1, e0, e1⟩ := cells2 hblk1
  obtain ⟨A3, c3, rfl⟩ := (RowAt.of_own hown1).slice
  have Hblk1 := Lib.hid hblk1
  have Hown1 := Lib.hid hown1
  clear hblk1 hown1
  go_wp2_with fail
  go_end0
  refine ⟨⟨_, rfl⟩, ⟨hB, hSg, _, blk_put Hblk1.out _, own_lower (own_far Hown1.out hgs _) (by omega), fun k hk hs => ?_⟩, (Same.of_below' hb1 S).setCell hSg _, (hb1.mono (by omega)).setCell hB _⟩
  have := own_blk_ge Hown1.out k hk
  have := HS.out k hs
  omega

theorem wbytes_at2 {S1 : Nat → Prop} (S : Nat → Prop) (B g : Nat) (xs p : List UInt8) (y : Value) (w : World) (h : WrS 181 S B w g xs 0) (hS : ∀ b, S b → b < w.heap.size) (hp : Bytes S1 w y p) (hx : xs.length ≤ 100000000) (hl : p.length < 65536) :
    Calls Try.prog 75 #[.pointer (some ⟨g, 0, none⟩), .int .i64 2, y] w fun e w' => (∃ v, e = .returned v) ∧ WrS 181 S B w' g (xs ++ be 2 p.length ++ p) 0 ∧ Same S w w' ∧ Below B w w' := by
  refine wbytes_of S B g xs p 2 y w h hS hp _ fun v hv => ?_
  obtain ⟨A, c, rfl⟩ := hv.slice
  obtain ⟨A2, c2, rfl⟩ := hp.slice
  exact add_at2 A A2 xs.length p.length c c2 xs p w hv hp rfl rfl hx hl
theorem wbytes_at4 {S1 : Nat → Prop} (S : Nat → Prop) (B g : Nat) (xs p : List UInt8) (y : Value) (w : World) (h : WrS 181 S B w g xs 0) (hS : ∀ b, S b → b < w.heap.size) (hp : Bytes S1 w y p) (hx : xs.length ≤ 100000000) (hl : p.length ≤ 65536) :
    Calls Try.prog 75 #[.pointer (some ⟨g, 0, none⟩), .int .i64 4, y] w fun e w' => (∃ v, e = .returned v) ∧ WrS 181 S B w' g (xs ++ be 4 p.length ++ p) 0 ∧ Same S w w' ∧ Below B w w' := by
  refine wbytes_of S B g xs p 4 y w h hS hp _ fun v hv => ?_
  obtain ⟨A, c, rfl⟩ := hv.slice
  obtain ⟨A2, c2, rfl⟩ := hp.slice
  exact add_at4 A A2 xs.length p.length c c2 xs p w hv hp rfl rfl hx hl
end Go.Proofs.Ytahagecdebadfaa

namespace Go.Proofs.Ytahagecdebadfaa
open Go.RowKit

/-- A store into a row of the call's own. -/
theorem own_store {w : World} {base g n cap i : Nat} {e : TypeId} {xs : List Value} (h : w.ownsRow base e 1 (.slice (some ⟨g, 0, none⟩) n cap) n xs) (_hi : i < n) (u : Value) :
    (w.setCell ⟨g, i, none⟩ u).ownsRow base e 1 (.slice (some ⟨g, 0, none⟩) n cap) n (xs.set i u) := by
  obtain ⟨h1, h2⟩ := h
  refine ⟨by simpa using h1, ?_⟩
  rcases h2 with ⟨h2, h3⟩ | ⟨g', cap', cur, hv, hb, hh, hn, hc, hs, ht⟩
  · cases h2
  · injection hv with hv1 hv2 hv3
    injection hv1 with hv1
    injection hv1 with hv1
    subst hv1 hv3
    refine .inr ⟨g, cap, cur.setIfInBounds i u, rfl, hb, ?_, hn, hc, by simpa using hs, ?_⟩
    · simp [World.setCell, Array.getElem?_modify, hh]
    · rw [Array.toList_setIfInBounds, List.take_set, ht]
theorem own_cell {w : World} {base g n cap i : Nat} {e : TypeId} {xs : List Value} {u : Value} (h : w.ownsRow base e 1 (.slice (some ⟨g, 0, none⟩) n cap) n xs) (hu : xs[i]? = some u) :
    w.cell? ⟨g, i, none⟩ = some u ∧ w.frozen? ⟨g, i, none⟩ = false := by
  obtain ⟨h1, h2⟩ := h
  rcases h2 with ⟨h2, h3⟩ | ⟨g', cap', cur, hv, hb, hh, hn, hc, hs, ht⟩
  · cases h2
  · injection hv with hv1 hv2 hv3
    injection hv1 with hv1
    injection hv1 with hv1
    subst hv1 hv3
    have hi : i < n * 1 := by rw [← h1]; exact (List.getElem?_eq_some_iff.1 hu).1
    rw [← ht, List.getElem?_take, if_pos hi] at hu
    constructor
    · simp [World.cell?, hh]
      simpa using hu
    · simp [World.frozen?, hh]

theorem cell_one (w : World) (x : Value) (t : TypeId) : ∀ j u, ([x] : List Value)[j]? = some u → (w.alloc (.cells #[x] t)).cell? ((⟨w.heap.size, 0, none⟩ : Addr).add j) = some u := by
  intro j u hu
  rw [add_plain, Nat.zero_add, cell_of_row _ _ _ _ _ _ (blk_new w _)]
  simpa using hu
theorem set2 {α : Type} (l : List α) (h : l.length = 2) (a b : α) : (l.set 0 a).set 1 b = [a, b] := by
  match l, h with
  | [_, _], _ => rfl
theorem set4 {α : Type} (l : List α) (h : l.length = 4) (a b c d : α) : (((l.set 0 a).set 1 b).set 2 c).set 3 d = [a, b, c, d] := by
  match l, h with
  | [_, _, _, _], _ => rfl

set_option maxHeartbeats 1000000 in
theorem rfits_any (n : Nat) (size : Int) (w : World) (hn : n < 18446744073709551616) (h1 : 1 ≤ size) (h2 : size ≤ 8) :
    Calls Try.prog 144 #[.int .u64 n, .int .i64 size] w fun e w' => e = .returned (.bool (fitsB n size)) ∧ w = w' := by
  have hs : size = 1 ∨ size = 2 ∨ size = 3 ∨ size = 4 ∨ size = 5 ∨ size = 6 ∨ size = 7 ∨ size = 8 := by omega
  rcases hs with rfl | rfl | rfl | rfl | rfl | rfl | rfl | rfl
  all_goals
    go_enter Try.func144, Try.ntmps144
    go_wp2
    go_ret
    refine ⟨?_, rfl⟩
    simp [fitsB]
  all_goals omega

set_option maxRecDepth 100000 in
set_option maxHeartbeats 2000000 in
theorem rget_yes {S : Nat → Prop} (v : Value) (xs : List UInt8) (at_ size : Nat) (w : World) (hv : Bytes S w v xs) (h1 : 1 ≤ size) (h8 : size ≤ 8) (h2 : at_ + size ≤ xs.length) :
    Calls Try.prog 85 #[v, .int .i64 at_, .int .i64 size] w fun e w' => e = .returned (.tuple #[.int .u64 (beVal ((xs.drop at_).take size)), .int .i64 0]) ∧ w = w' := by
  have hle := hv.le
  unfold maxLen at hle
  have Hv := Lib.hid hv
  obtain ⟨b, o, c, rfl, hn, hc, -, hb, hcell⟩ := hv.form (by omega)
  have Hc := Lib.hid hcell
  unfold maxLen at hc
  clear hv hcell
  have s1 : 1 ≤ (size : Int) := by omega
  have s8 : (size : Int) ≤ 8 := by omega
  have g1 : (at_ : Int) ≤ (xs.length : Int) - size := by omega
  have g0 : 0 ≤ (at_ : Int) := by omega
  go_enter Try.func85, Try.ntmps85
  go_wp2_with fail
  go_loop [8, 9] (fun s8 s9 => ∃ k : Nat, k ≤ size ∧ s9 = .int .i64 k ∧ s8 = .int .u64 (beVal ((xs.drop at_).take k))) (fun _ s9 => size - (intOf s9).toNat)
  case atStart => exact ⟨0, Nat.zero_le _, rfl, rfl⟩
  case round =>
    obtain ⟨k, hk, rfl, rfl⟩ := hrel
    by_cases hlt : k < size
    · have hkl : at_ + k < xs.length := by omega
      have hck : w.cell? ⟨b, o + (at_ + k), none⟩ = some (.int .u8 (xs[at_ + k].toNat)) := Hc.out _ _ (byteCells_get xs _ hkl)
      have hsn : (xs.drop at_).take (k + 1) = (xs.drop at_).take k ++ [xs[at_ + k]] := by
        rw [List.take_succ_eq_append_getElem (by simp; omega)]; simp
      have hbv := beVal_snoc ((xs.drop at_).take k) xs[at_ + k]
      rw [← hsn] at hbv
      have hbl := beVal_lt ((xs.drop at_).take k)
      have hkk : ((xs.drop at_).take k).length = k := by simp; omega
      rw [hkk] at hbl
      have hpw : 256 ^ k ≤ 256 ^ 7 := Nat.pow_le_pow_right (by omega) (by omega)
      have Hbv := Lib.hid hbv
      have hx8 := (xs[at_ + k]).toNat_lt
      have hlt2 : (k : Int) < (size : Int) := by omega
      have hm : beVal ((xs.drop at_).take k) < 72057594037927936 := Nat.lt_of_lt_of_le hbl hpw
      have hix : (at_ : Int) + k < xs.length := by omega
      clear hbv hbl hkk hpw hsn
      generalize beVal ((xs.drop at_).take k) = m at *
      generalize (xs[at_ + k]).toNat = cx at *
      go_wp2_with fail
      rw [or_byte m cx hm hx8]
      go_round
      case rel => exact ⟨k + 1, hlt, by go_num, by rw [Hbv.out]⟩
      case measure => simp [intOf]; omega
    · obtain rfl : k = size := by omega
      go_wp2_with fail
      go_ret2
      exact ⟨rfl, rfl⟩

set_option maxRecDepth 100000 in
set_option maxHeartbeats 2000000 in
theorem rput_at2 {S : Nat → Prop} (A : Option Addr) (c : Nat) (zs : List UInt8) (n : Int) (w : World) (hv : Bytes S w (.slice A 2 c) zs) (hz : zs.length = 2) (h0 : 0 ≤ n) (hn : n < 65536) :
    Calls Try.prog 145 #[.slice A 2 c, .int .i64 0, .int .i64 2, .int .u64 n] w fun e w' => ∃ v, e = .returned (.tuple #[v, .int .i64 0]) ∧ w'.ownsRow w.heap.size 5 1 v 2 (byteCells (be 2 n.toNat)) ∧ Below w.heap.size w w' := by
  have hf : ∀ W, Calls Try.prog 144 #[.int .u64 n, .int .i64 2] W fun e w' => e = .returned (.bool true) ∧ W = w' := by
    intro W
    obtain ⟨N, rfl⟩ : ∃ N : Nat, n = N := ⟨n.toNat, by omega⟩
    refine (rfits_any N 2 W (by omega) (by decide) (by decide)).mono ?_
    rintro _ _ ⟨rfl, rfl⟩
    exact ⟨by simp [fitsB]; omega, rfl⟩
  have hbe : byteCells (be 2 n.toNat) = [.int .u8 (n / 256), .int .u8 (n % 256)] := by
    obtain ⟨N, rfl⟩ : ∃ N : Nat, n = N := ⟨n.toNat, by omega⟩
    rw [Int.toNat_natCast, ← be_drop N 2 (by omega)]
    have e : byteCells ((be 8 N).drop (8 - 2)) = (byteCells (be 8 N)).drop (8 - 2) := by simp [byteCells]
    rw [e, ← num8_be N (by omega)]
    show ([.int .u8 ((N : Int) / 256 % 256), .int .u8 ((N : Int) % 256)] : List Value) = _
    rw [show ((N : Int) / 256 % 256) = (N : Int) / 256 by omega]
  have Hbe := Lib.hid hbe
  have Hf := Lib.hid hf
  have Hv := Lib.hid hv
  have Hz := Lib.hid hz
  clear hf hv hz hbe
  go_enter Try.func145, Try.ntmps145
  go_wp2_with (first | (go_at_call 144; refine (Hf.out _).mono ?_; rintro _ _ ⟨rfl, rfl⟩) | (at_builtin; refine wpList_append_bytes _ rfl _ _ rfl _ _ rfl rfl w.heap.size 0 [] (World.ownsRow_nil _ _ _ _) zs Hv.out ?h7 ?hB ?_))
  case h7 => have := Hz.out; omega
  case hB => exact Nat.le_refl _
  intro v1 w1 hown hgr _
  have hb := (Below.refl w.heap.size w).grown hgr (Nat.le_refl _) (by intro k hk; simp [Value.ownBlock] at hk)
  rw [Hz.out] at hown
  obtain ⟨g, cap, rfl⟩ : ∃ g cap, v1 = .slice (some ⟨g, 0, none⟩) 2 cap := by
    rcases hown.2 with ⟨h, h'⟩ | ⟨g, cap, cur, h, _⟩
    · omega
    · exact ⟨g, cap, h⟩
  have hgB : w.heap.size ≤ g := own_blk_ge hown g rfl
  have hlen : (byteCells zs).length = 2 := by rw [byteCells_length]; exact Hz.out
  have Hown := Lib.hid hown
  obtain ⟨⟨a0, b0⟩, ⟨a1, b1⟩⟩ : (w1.cell? ⟨g, 0, none⟩ = some ((byteCells zs)[0]'(by omega)) ∧ w1.frozen? ⟨g, 0, none⟩ = false) ∧ (w1.cell? ⟨g, 1, none⟩ = some ((byteCells zs)[1]'(by omega)) ∧ w1.frozen? ⟨g, 1, none⟩ = false) := ⟨own_cell hown (List.getElem?_eq_getElem _), own_cell hown (List.getElem?_eq_getElem _)⟩
  generalize (byteCells zs)[0]'_ = x0 at a0
  generalize (byteCells zs)[1]'_ = x1 at a1
  have Hlen := Lib.hid hlen
  clear hown hgr hlen
  go_wp2_with fail
  go_rounds 3
  go_ret2
  refine ⟨_, rfl, ?_, ((hb.setCell hgB _).setCell hgB _)⟩
  have h := own_store (own_store (Hown.out) (i := 0) (by omega) (.int .u8 (n / 256))) (i := 1) (by omega) (.int .u8 (n % 256))
  rw [set2 _ Hlen.out, ← Hbe.out] at h
  exact h

set_option maxRecDepth 100000 in
set_option maxHeartbeats 2000000 in
theorem rput_at4 {S : Nat → Prop} (A : Option Addr) (c : Nat) (zs : List UInt8) (n : Int) (w : World) (hv : Bytes S w (.slice A 4 c) zs) (hz : zs.length = 4) (h0 : 0 ≤ n) (hn : n < 4294967296) :
    Calls Try.prog 145 #[.slice A 4 c, .int .i64 0, .int .i64 4, .int .u64 n] w fun e w' => ∃ v, e = .returned (.tuple #[v, .int .i64 0]) ∧ w'.ownsRow w.heap.size 5 1 v 4 (byteCells (be 4 n.toNat)) ∧ Below w.heap.size w w' := by
  have hf : ∀ W, Calls Try.prog 144 #[.int .u64 n, .int .i64 4] W fun e w' => e = .returned (.bool true) ∧ W = w' := by
    intro W
    obtain ⟨N, rfl⟩ : ∃ N : Nat, n = N := ⟨n.toNat, by omega⟩
    refine (rfits_any N 4 W (by omega) (by decide) (by decide)).mono ?_
    rintro _ _ ⟨rfl, rfl⟩
    exact ⟨by simp [fitsB]; omega, rfl⟩
  have hbe : byteCells (be 4 n.toNat) = [.int .u8 (n / 16777216), .int .u8 (n / 65536 % 256), .int .u8 (n / 256 % 256), .int .u8 (n % 256)] := by
    obtain ⟨N, rfl⟩ : ∃ N : Nat, n = N := ⟨n.toNat, by omega⟩
    rw [Int.toNat_natCast, ← be_drop N 4 (by omega)]
    have e : byteCells ((be 8 N).drop (8 - 4)) = (byteCells (be 8 N)).drop (8 - 4) := by simp [byteCells]
    rw [e, ← num8_be N (by omega)]
    show ([.int .u8 ((N : Int) / 16777216 % 256), .int .u8 ((N : Int) / 65536 % 256), .int .u8 ((N : Int) / 256 % 256), .int .u8 ((N : Int) % 256)] : List Value) = _
    rw [show ((N : Int) / 16777216 % 256) = (N : Int) / 16777216 by omega]
  have Hbe := Lib.hid hbe
  have Hf := Lib.hid hf
  have Hv := Lib.hid hv
  have Hz := Lib.hid hz
  clear hf hv hz hbe
  go_enter Try.func145, Try.ntmps145
  go_wp2_with (first | (go_at_call 144; refine (Hf.out _).mono ?_; rintro _ _ ⟨rfl, rfl⟩) | (at_builtin; refine wpList_append_bytes _ rfl _ _ rfl _ _ rfl rfl w.heap.size 0 [] (World.ownsRow_nil _ _ _ _) zs Hv.out ?h7 ?hB ?_))
  case h7 => have := Hz.out; omega
  case hB => exact Nat.le_refl _
  intro v1 w1 hown hgr _
  have hb := (Below.refl w.heap.size w).grown hgr (Nat.le_refl _) (by intro k hk; simp [Value.ownBlock] at hk)
  rw [Hz.out] at hown
  obtain ⟨g, cap, rfl⟩ : ∃ g cap, v1 = .slice (some ⟨g, 0, none⟩) 4 cap := by
    rcases hown.2 with ⟨h, h'⟩ | ⟨g, cap, cur, h, _⟩
    · omega
    · exact ⟨g, cap, h⟩
  have hgB : w.heap.size ≤ g := own_blk_ge hown g rfl
  have hlen : (byteCells zs).length = 4 := by rw [byteCells_length]; exact Hz.out
  have Hown := Lib.hid hown
  obtain ⟨⟨a0, b0⟩, ⟨a1, b1⟩, ⟨a2, b2⟩, ⟨a3, b3⟩⟩ : (w1.cell? ⟨g, 0, none⟩ = some ((byteCells zs)[0]'(by omega)) ∧ w1.frozen? ⟨g, 0, none⟩ = false) ∧ (w1.cell? ⟨g, 1, none⟩ = some ((byteCells zs)[1]'(by omega)) ∧ w1.frozen? ⟨g, 1, none⟩ = false) ∧ (w1.cell? ⟨g, 2, none⟩ = some ((byteCells zs)[2]'(by omega)) ∧ w1.frozen? ⟨g, 2, none⟩ = false) ∧ (w1.cell? ⟨g, 3, none⟩ = some ((byteCells zs)[3]'(by omega)) ∧ w1.frozen? ⟨g, 3, none⟩ = false) := ⟨own_cell hown (List.getElem?_eq_getElem _), own_cell hown (List.getElem?_eq_getElem _), own_cell hown (List.getElem?_eq_getElem _), own_cell hown (List.getElem?_eq_getElem _)⟩
  generalize (byteCells zs)[0]'_ = x0 at a0
  generalize (byteCells zs)[1]'_ = x1 at a1
  generalize (byteCells zs)[2]'_ = x2 at a2
  generalize (byteCells zs)[3]'_ = x3 at a3
  have Hlen := Lib.hid hlen
  clear hown hgr hlen
  go_wp2_with fail
  go_rounds 5
  go_ret2
  refine ⟨_, rfl, ?_, ((((hb.setCell hgB _).setCell hgB _).setCell hgB _).setCell hgB _)⟩
  have h := own_store (own_store (own_store (own_store (Hown.out) (i := 0) (by omega) (.int .u8 (n / 16777216))) (i := 1) (by omega) (.int .u8 (n / 65536 % 256))) (i := 2) (by omega) (.int .u8 (n / 256 % 256))) (i := 3) (by omega) (.int .u8 (n % 256))
  rw [set4 _ Hlen.out, ← Hbe.out] at h
  exact h
end Go.Proofs.Ytahagecdebadfaa

namespace Go.Proofs.Ytahagecdebadfaa
open Go.RowKit

theorem bytes_zeros (w : World) (n : Nat) (h : n ≤ maxLen) : Bytes (w.heap.size ≤ ·) (w.alloc (.cells (byteCells (List.replicate n 0)).toArray 5)) (.slice (some ⟨w.heap.size, 0, none⟩) n n) (List.replicate n 0) := by
  refine ⟨by simp [byteCells_length], .inr ⟨w.heap.size, 0, n, by simp, by simp, h, Nat.le_refl _, by simp, fun i u hu => ?_⟩⟩
  rw [cell_of_row _ _ _ _ _ _ (blk_new w _)]
  simpa using hu

set_option maxRecDepth 100000 in
set_option maxHeartbeats 2000000 in
theorem radd_at2 {S1 S2 : Nat → Prop} (A1 A2 : Option Addr) (n1 n2 c1 c2 : Nat) (x1 x2 : List UInt8) (w : World)
    (h1 : Bytes S1 w (.slice A1 n1 c1) x1) (h2 : Bytes S2 w (.slice A2 n2 c2) x2) (hn1 : x1.length = n1) (hn2 : x2.length = n2) (hs1 : n1 ≤ 100000000) (hs2 : n2 < 65536) (hs3 : n2 ≤ 65536) :
    Calls Try.prog 123 #[.slice A1 n1 c1, .int .i64 2, .slice A2 n2 c2] w fun e w' => ∃ v, e = .returned (.tuple #[v, .int .i64 0]) ∧ w'.ownsRow w.heap.size 5 1 v (x1 ++ be 2 n2 ++ x2).length (byteCells (x1 ++ be 2 n2 ++ x2)) ∧ Below w.heap.size w w' := by
  obtain ⟨m, hm⟩ : ∃ m : Int, m = n2 := ⟨_, rfl⟩
  have q1 : ¬ (m > 65536) := by omega
  have q2 : 0 ≤ m := by omega
  have q3 : m < 4294967296 := by omega
  have hf : ∀ W, Calls Try.prog 144 #[.int .u64 n2, .int .i64 2] W fun e w' => e = .returned (.bool true) ∧ W = w' := by
    intro W
    refine (rfits_any n2 2 W (by omega) (by decide) (by decide)).mono ?_
    rintro _ _ ⟨rfl, rfl⟩
    exact ⟨by simp [fitsB]; omega, rfl⟩
  have hmk : ∀ w : World, (Instr.makeSlice 31 (.int .i64 2) (.int .i64 2)).run Try.prog w = .ok (.slice (some ⟨w.heap.size, 0, none⟩) 2 2) (w.alloc (.cells #[.int .u8 0, .int .u8 0] 5)) := fun _ => by kernel_rfl
  have Hf := Lib.hid hf
  have Hm := Lib.hid hm
  have H1 := Lib.hid h1
  have H2 := Lib.hid h2
  have H := Lib.hid (And.intro hn1 (And.intro hn2 (And.intro hs1 (And.intro hs2 hs3))))
  clear hf h1 h2 hn1 hn2 hs1 hs2 hs3
  go_enter Try.func123, Try.ntmps123
  go_wp2_with (go_at_call 144; refine (Hf.out _).mono ?_; rintro _ _ ⟨rfl, rfl⟩)
  refine (rput_at2 _ _ (List.replicate 2 0) n2 _ (bytes_zeros w 2 (by decide)) (by simp) (by omega) (by have := H.out; omega)).mono ?_
  rintro _ w1 ⟨u, rfl, hown, hb1⟩
  have hb : Below w.heap.size w w1 := below_then (box_below _ _) hb1
  rw [Int.toNat_natCast] at hown
  have hown' := own_lower hown (B := w.heap.size) (by simp)
  have hl := be_length 2 n2
  have hr := RowAt.of_own hown
  obtain ⟨A3, c3, rfl⟩ := hr.slice
  have hby : Bytes (w.heap.size ≤ ·) w1 (.slice A3 2 c3) (be 2 n2) := by unfold Bytes; rw [hl]; exact RowAt.of_own hown'
  have Hby := Lib.hid hby
  clear hown hown' hl hr hby hmk
  go_wp2_with (at_builtin; refine wpList_append_bytes (S := S1) _ rfl _ _ rfl _ _ rfl rfl w.heap.size 0 [] (World.ownsRow_nil _ _ _ _) x1 ?hy ?h7 ?hB ?_)
  case hy => have := H1.out.keep hb; have e := H.out.1; subst e; exact this
  case h7 => have := H.out; omega
  case hB => exact hb.size
  intro v1 w2 hown1 hg1 _
  have hb2 := hb.grown hg1 hb.size (own_blk_ge (World.ownsRow_nil w1 w.heap.size 5 1))
  have hby2 := Hby.out.keep (below_of_grown hg1)
  have Hby2 := Lib.hid hby2
  clear hby2
  have Hown1 := Lib.hid hown1
  clear hown1
  go_wp2_with (at_builtin; refine wpList_append_bytes _ rfl _ _ rfl _ _ rfl rfl w.heap.size x1.length (byteCells x1) Hown1.out (be 2 n2) Hby2.out ?g7 ?gB ?_)
  case g7 => have := H.out; rw [be_length]; omega
  case gB => exact hb2.size
  intro v2 w3 hown2 hg2 _
  have hb3 := hb2.grown hg2 hb2.size (own_blk_ge Hown1.out)
  have Hown2 := Lib.hid hown2
  clear hown2
  go_wp2_with (at_builtin; refine wpList_append_bytes (S := S2) _ rfl _ _ rfl _ _ rfl rfl w.heap.size (x1.length + (be 2 n2).length) (byteCells x1 ++ byteCells (be 2 n2)) Hown2.out x2 ?ky ?k7 ?kB ?_)
  case ky => have := H2.out.keep hb3; have e := H.out.2.1; subst e; exact this
  case k7 => have := H.out; rw [be_length]; omega
  case kB => exact hb3.size
  intro v3 w4 hown3 hg3 _
  have hb4 := hb3.grown hg3 hb3.size (own_blk_ge Hown2.out)
  have Hown3 := Lib.hid hown3
  clear hown3 hg1 hg2 hg3
  go_wp2_with fail
  go_ret2
  refine ⟨_, rfl, ?_, hb4⟩
  have h := Hown3.out
  simpa [byteCells_append, List.append_assoc, Nat.add_assoc] using h

set_option maxRecDepth 100000 in
set_option maxHeartbeats 2000000 in
theorem radd_at4 {S1 S2 : Nat → Prop} (A1 A2 : Option Addr) (n1 n2 c1 c2 : Nat) (x1 x2 : List UInt8) (w : World)
    (h1 : Bytes S1 w (.slice A1 n1 c1) x1) (h2 : Bytes S2 w (.slice A2 n2 c2) x2) (hn1 : x1.length = n1) (hn2 : x2.length = n2) (hs1 : n1 ≤ 100000000) (hs2 : n2 < 4294967296) (hs3 : n2 ≤ 65536) :
    Calls Try.prog 123 #[.slice A1 n1 c1, .int .i64 4, .slice A2 n2 c2] w fun e w' => ∃ v, e = .returned (.tuple #[v, .int .i64 0]) ∧ w'.ownsRow w.heap.size 5 1 v (x1 ++ be 4 n2 ++ x2).length (byteCells (x1 ++ be 4 n2 ++ x2)) ∧ Below w.heap.size w w' := by
  obtain ⟨m, hm⟩ : ∃ m : Int, m = n2 := ⟨_, rfl⟩
  have q1 : ¬ (m > 65536) := by omega
  have q2 : 0 ≤ m := by omega
  have q3 : m < 4294967296 := by omega
  have hf : ∀ W, Calls Try.prog 144 #[.int .u64 n2, .int .i64 4] W fun e w' => e = .returned (.bool true) ∧ W = w' := by
    intro W
    refine (rfits_any n2 4 W (by omega) (by decide) (by decide)).mono ?_
    rintro _ _ ⟨rfl, rfl⟩
    exact ⟨by simp [fitsB]; omega, rfl⟩
  have hmk : ∀ w : World, (Instr.makeSlice 31 (.int .i64 4) (.int .i64 4)).run Try.prog w = .ok (.slice (some ⟨w.heap.size, 0, none⟩) 4 4) (w.alloc (.cells #[.int .u8 0, .int .u8 0, .int .u8 0, .int .u8 0] 5)) := fun _ => by kernel_rfl
  have Hf := Lib.hid hf
  have Hm := Lib.hid hm
  have H1 := Lib.hid h1
  have H2 := Lib.hid h2
  have H := Lib.hid (And.intro hn1 (And.intro hn2 (And.intro hs1 (And.intro hs2 hs3))))
  clear hf h1 h2 hn1 hn2 hs1 hs2 hs3
  go_enter Try.func123, Try.ntmps123
  go_wp2_with (go_at_call 144; refine (Hf.out _).mono ?_; rintro _ _ ⟨rfl, rfl⟩)
  refine (rput_at4 _ _ (List.replicate 4 0) n2 _ (bytes_zeros w 4 (by decide)) (by simp) (by omega) (by have := H.out; omega)).mono ?_
  rintro _ w1 ⟨u, rfl, hown, hb1⟩
  have hb : Below w.heap.size w w1 := below_then (box_below _ _) hb1
  rw [Int.toNat_natCast] at hown
  have hown' := own_lower hown (B := w.heap.size) (by simp)
  have hl := be_length 4 n2
  have hr := RowAt.of_own hown
  obtain ⟨A3, c3, rfl⟩ := hr.slice
  have hby : Bytes (w.heap.size ≤ ·) w1 (.slice A3 4 c3) (be 4 n2) := by unfold Bytes; rw [hl]; exact RowAt.of_own hown'
  have Hby := Lib.hid hby
  clear hown hown' hl hr hby hmk
  go_wp2_with (at_builtin; refine wpList_append_bytes (S := S1) _ rfl _ _ rfl _ _ rfl rfl w.heap.size 0 [] (World.ownsRow_nil _ _ _ _) x1 ?hy ?h7 ?hB ?_)
  case hy => have := H1.out.keep hb; have e := H.out.1; subst e; exact this
  case h7 => have := H.out; omega
  case hB => exact hb.size
  intro v1 w2 hown1 hg1 _
  have hb2 := hb.grown hg1 hb.size (own_blk_ge (World.ownsRow_nil w1 w.heap.size 5 1))
  have hby2 := Hby.out.keep (below_of_grown hg1)
  have Hby2 := Lib.hid hby2
  clear hby2
  have Hown1 := Lib.hid hown1
  clear hown1
  go_wp2_with (at_builtin; refine wpList_append_bytes _ rfl _ _ rfl _ _ rfl rfl w.heap.size x1.length (byteCells x1) Hown1.out (be 4 n2) Hby2.out ?g7 ?gB ?_)
  case g7 => have := H.out; rw [be_length]; omega
  case gB => exact hb2.size
  intro v2 w3 hown2 hg2 _
  have hb3 := hb2.grown hg2 hb2.size (own_blk_ge Hown1.out)
  have Hown2 := Lib.hid hown2
  clear hown2
  go_wp2_with (at_builtin; refine wpList_append_bytes (S := S2) _ rfl _ _ rfl _ _ rfl rfl w.heap.size (x1.length + (be 4 n2).length) (byteCells x1 ++ byteCells (be 4 n2)) Hown2.out x2 ?ky ?k7 ?kB ?_)
  case ky => have := H2.out.keep hb3; have e := H.out.2.1; subst e; exact this
  case k7 => have := H.out; rw [be_length]; omega
  case kB => exact hb3.size
  intro v3 w4 hown3 hg3 _
  have hb4 := hb3.grown hg3 hb3.size (own_blk_ge Hown2.out)
  have Hown3 := Lib.hid hown3
  clear hown3 hg1 hg2 hg3
  go_wp2_with fail
  go_ret2
  refine ⟨_, rfl, ?_, hb4⟩
  have h := Hown3.out
  simpa [byteCells_append, List.append_assoc, Nat.add_assoc] using h
end Go.Proofs.Ytahagecdebadfaa

namespace Go.Proofs.Ytahagecdebadfaa
open Go.RowKit

/-- A byte more in a writer's row. -/
theorem wr_more {T : TypeId} {S : Nat → Prop} {B g : Nat} {w w1 : World} {v v' x : Value} {xs : List UInt8} {b : UInt8} (hx : x = .int .u8 b.toNat) (hT : 5 ≠ T) (hB : B ≤ g) (hSg : ¬ S g) (hS : ∀ b, S b → b < w.heap.size) (hvS : ∀ k, v.ownBlock = some k → ¬ S k) (hblk : w.heap[g]? = some (.cells #[v, .int .i64 0] T (0, 0)))
    (hown : w.ownsRow B 5 1 v xs.length (byteCells xs)) (hown1 : w1.ownsRow B 5 1 v' (xs.length + 1) (byteCells xs ++ [x])) (hg : (w.alloc (.cells #[x] 5)).grownBy w1 v.ownBlock) (hat : v'.ownBlock = v.ownBlock ∨ v'.ownBlock = some (w.heap.size + 1)) :
    w1.heap[g]? = some (.cells #[v, .int .i64 0] T (0, 0)) ∧ WrS T S B (w1.setCell ⟨g, 0, none⟩ v') g (xs ++ [b]) 0 ∧ Same S w (w1.setCell ⟨g, 0, none⟩ v') ∧ Below B w (w1.setCell ⟨g, 0, none⟩ v') := by
  subst hx
  have hgs := (Array.getElem?_eq_some_iff.1 hblk).1
  have hb0 : Below B w (w.alloc (.cells #[.int .u8 b.toNat] 5)) := (Below.refl B w).alloc (by omega) _
  have h1 := wr_grown (blk_alloc hblk _) hT (own_keep hown (box_below w (.cells #[.int .u8 b.toNat] 5))) hg
  refine ⟨h1, ⟨hB, hSg, v', blk_put h1 v', ?_, fun k hk hs => ?_⟩, ?_, ?_⟩
  · have e : (xs ++ [b]).length = xs.length + 1 := by simp
    rw [e, byteCells_append]
    exact own_put hown1 h1 hT v'
  · have hlt := hS k hs
    rcases hat with h | h
    · exact hvS k (h ▸ hk) hs
    · rw [hk] at h
      injection h with h
      omega
  · exact ((Same.of_below' (box_below w _) S).trans (same_grownO hg hvS)).setCell hSg _
  · exact (hb0.grown hg (by simp; omega) (own_blk_ge hown)).setCell hB _
theorem byte_cell (n : Nat) (i : Nat) : Value.int .u8 ((n : Int) / (256 ^ i : Nat) % 256) = .int .u8 (byteOf n i).toNat := by rw [byteOf_nat]

set_option maxRecDepth 100000 in
set_option maxHeartbeats 4000000 in
theorem rwnum_at1 (S : Nat → Prop) (B g : Nat) (xs : List UInt8) (n : Int) (w : World) (h : WrS 125 S B w g xs 0) (hS : ∀ b, S b → b < w.heap.size) (hn0 : 0 ≤ n) (hN : n < 256) (hx : xs.length ≤ 1000000000) :
    Calls Try.prog 78 #[.pointer (some ⟨g, 0, none⟩), .int .i64 1, .int .i64 n] w fun e w' => (∃ v, e = .returned v) ∧ WrS 125 S B w' g (xs ++ be 1 n.toNat) 0 ∧ Same S w w' ∧ Below B w w' := by
  obtain ⟨i0, hi, hz0, hz1, hz2⟩ := info_parts infoU8
  obtain ⟨N, hNn⟩ : ∃ N : Nat, (N : Int) = n := ⟨n.toNat, by omega⟩
  have hbe : n.toNat = N := by omega
  rw [hbe]
  have y0 : Value.int .u8 (n) = .int .u8 (byteOf N 0).toNat := by rw [byteOf_nat]; congr 1; subst hNn; first | rfl | (simp; done) | (simp; omega)
  have Y := Lib.hid ((⟨y0, trivial⟩ : Value.int .u8 (n) = .int .u8 (byteOf N 0).toNat ∧ True))
  have Hx := Lib.hid hx
  have HN := Lib.hid hNn
  clear hbe hNn hx y0
  have hb : Below B w w := Below.refl _ _
  have hsm : Same S w w := Same.refl _ _
  have HS := Lib.hid hS
  clear hS
  go_enter Try.func78, Try.ntmps78
  obtain ⟨hB, hSg, v0, hblk0, hown0, hvS⟩ := h
  have HvS0 := Lib.hid hvS
  clear hvS
  have hgs := (Array.getElem?_eq_some_iff.1 hblk0).1
  have Hown0 := Lib.hid hown0
  have Hblk0 := Lib.hid hblk0
  obtain ⟨c00, c01, f00, f01⟩ := cells2 hblk0
  clear hown0 hblk0
  go_wp2_with fail
  refine wp_loop_rounds 2 ?_
  rw [rounds_succ]
  go_wp2_with (at_builtin; refine wpList_append_own_at _ rfl _ _ 31 rfl B 5 i0 (.int .u8 0) 1 1 Try.underlying31 hi hz0 hz1 hz2 rfl (by decide) v0 _ _ rfl (own_keep Hown0.out (box_below _ (.cells #[.int .u8 (n)] 5))) ⟨w.heap.size, 0, none⟩ 1 1 [.int .u8 (n)] rfl rfl (cell_one _ _ _) (by simp [Value.oneCell']) ?h30 ?h40 ?h50 ?_)
  case h30 => have := Hx.out; simp [maxLen]; omega
  case h40 => have := Hx.out; simp; omega
  case h50 => simp; omega
  intro u0 w0 hown1 hgr _ hat
  have hSw : ∀ b, S b → b < w.heap.size := fun b hb0 => Nat.lt_of_lt_of_le (HS.out b hb0) hsm.size
  obtain ⟨hblk1, hwr, hsm1, hbl⟩ := wr_more Y.out.1 (by decide) hB hSg hSw HvS0.out Hblk0.out Hown0.out hown1 hgr hat
  obtain ⟨d0, d1, e0, e1⟩ := cells2 hblk1
  obtain ⟨A0, cc0, rfl⟩ := (RowAt.of_own hown1).slice
  have hb := hb.trans hbl
  have hsm := hsm.trans hsm1
  have Hwr := Lib.hid hwr
  clear hown1 hgr hblk1 hwr hbl hat hSw hsm1
  go_wp2_with fail
  rw [rounds_succ]
  go_wp2_with fail
  go_end0
  refine ⟨⟨_, rfl⟩, ?_, hsm, hb⟩
  have h := Hwr.out
  simpa [be] using h

set_option maxRecDepth 100000 in
set_option maxHeartbeats 4000000 in
theorem rwnum_at2 (S : Nat → Prop) (B g : Nat) (xs : List UInt8) (n : Int) (w : World) (h : WrS 125 S B w g xs 0) (hS : ∀ b, S b → b < w.heap.size) (hn0 : 0 ≤ n) (hN : n < 65536) (hx : xs.length ≤ 1000000000) :
    Calls Try.prog 78 #[.pointer (some ⟨g, 0, none⟩), .int .i64 2, .int .i64 n] w fun e w' => (∃ v, e = .returned v) ∧ WrS 125 S B w' g (xs ++ be 2 n.toNat) 0 ∧ Same S w w' ∧ Below B w w' := by
  obtain ⟨i0, hi, hz0, hz1, hz2⟩ := info_parts infoU8
  obtain ⟨N, hNn⟩ : ∃ N : Nat, (N : Int) = n := ⟨n.toNat, by omega⟩
  have hbe : n.toNat = N := by omega
  rw [hbe]
  have y0 : Value.int .u8 (n / 256) = .int .u8 (byteOf N 1).toNat := by rw [byteOf_nat]; congr 1; subst hNn; first | rfl | (simp; done) | (simp; omega)
  have y1 : Value.int .u8 (n % 256) = .int .u8 (byteOf N 0).toNat := by rw [byteOf_nat]; congr 1; subst hNn; first | rfl | (simp; done) | (simp; omega)
  have Y := Lib.hid ((⟨y0, y1, trivial⟩ : Value.int .u8 (n / 256) = .int .u8 (byteOf N 1).toNat ∧ Value.int .u8 (n % 256) = .int .u8 (byteOf N 0).toNat ∧ True))
  have Hx := Lib.hid hx
  have HN := Lib.hid hNn
  clear hbe hNn hx y0 y1
  have hb : Below B w w := Below.refl _ _
  have hsm : Same S w w := Same.refl _ _
  have HS := Lib.hid hS
  clear hS
  go_enter Try.func78, Try.ntmps78
  obtain ⟨hB, hSg, v0, hblk0, hown0, hvS⟩ := h
  have HvS0 := Lib.hid hvS
  clear hvS
  have hgs := (Array.getElem?_eq_some_iff.1 hblk0).1
  have Hown0 := Lib.hid hown0
  have Hblk0 := Lib.hid hblk0
  obtain ⟨c00, c01, f00, f01⟩ := cells2 hblk0
  clear hown0 hblk0
  go_wp2_with fail
  refine wp_loop_rounds 3 ?_
  rw [rounds_succ]
  go_wp2_with (at_builtin; refine wpList_append_own_at _ rfl _ _ 31 rfl B 5 i0 (.int .u8 0) 1 1 Try.underlying31 hi hz0 hz1 hz2 rfl (by decide) v0 _ _ rfl (own_keep Hown0.out (box_below _ (.cells #[.int .u8 (n / 256)] 5))) ⟨w.heap.size, 0, none⟩ 1 1 [.int .u8 (n / 256)] rfl rfl (cell_one _ _ _) (by simp [Value.oneCell']) ?h30 ?h40 ?h50 ?_)
  case h30 => have := Hx.out; simp [maxLen]; omega
  case h40 => have := Hx.out; simp; omega
  case h50 => simp; omega
  intro u0 w0 hown1 hgr _ hat
  have hSw : ∀ b, S b → b < w.heap.size := fun b hb0 => Nat.lt_of_lt_of_le (HS.out b hb0) hsm.size
  obtain ⟨hblk1, hwr, hsm1, hbl⟩ := wr_more Y.out.1 (by decide) hB hSg hSw HvS0.out Hblk0.out Hown0.out hown1 hgr hat
  obtain ⟨d0, d1, e0, e1⟩ := cells2 hblk1
  obtain ⟨A0, cc0, rfl⟩ := (RowAt.of_own hown1).slice
  have hb := hb.trans hbl
  have hsm := hsm.trans hsm1
  have Hwr := Lib.hid hwr
  clear hown1 hgr hblk1 hwr hbl hat hSw hsm1
  go_wp2_with fail
  obtain ⟨W1, hW⟩ : ∃ W, w0.setCell ⟨g, 0, none⟩ (.slice A0 (xs.length + 1) cc0) = W := ⟨_, rfl⟩
  rw [hW] at Hwr hb hsm ⊢
  obtain ⟨xs1, hxs⟩ : ∃ ys, ys = xs ++ [byteOf N 1] := ⟨_, rfl⟩
  rw [← hxs] at Hwr
  have Hxs1 := Lib.hid hxs
  clear d0 d1 e0 e1 hW hxs
  obtain ⟨-, -, v1, hblk, hown, hvS⟩ := Hwr.out
  have HvS1 := Lib.hid hvS
  clear hvS
  have hgs := (Array.getElem?_eq_some_iff.1 hblk).1
  have Hown1 := Lib.hid hown
  have Hblk1 := Lib.hid hblk
  obtain ⟨c10, c11, f10, f11⟩ := cells2 hblk
  clear hown hblk
  rw [rounds_succ]
  go_wp2_with (at_builtin; refine wpList_append_own_at _ rfl _ _ 31 rfl B 5 i0 (.int .u8 0) 1 1 Try.underlying31 hi hz0 hz1 hz2 rfl (by decide) v1 _ _ rfl (own_keep Hown1.out (box_below _ (.cells #[.int .u8 (n % 256)] 5))) ⟨W1.heap.size, 0, none⟩ 1 1 [.int .u8 (n % 256)] rfl rfl (cell_one _ _ _) (by simp [Value.oneCell']) ?h31 ?h41 ?h51 ?_)
  case h31 => have := Hx.out; have := congrArg List.length Hxs1.out; simp at this; simp [maxLen]; omega
  case h41 => have := Hx.out; have := congrArg List.length Hxs1.out; simp at this; simp; omega
  case h51 => simp; omega
  intro u1 w1 hown1 hgr _ hat
  have hSw : ∀ b, S b → b < W1.heap.size := fun b hb0 => Nat.lt_of_lt_of_le (HS.out b hb0) hsm.size
  obtain ⟨hblk1, hwr, hsm1, hbl⟩ := wr_more Y.out.2.1 (by decide) hB hSg hSw HvS1.out Hblk1.out Hown1.out hown1 hgr hat
  obtain ⟨d0, d1, e0, e1⟩ := cells2 hblk1
  obtain ⟨A1, cc1, rfl⟩ := (RowAt.of_own hown1).slice
  have hb := hb.trans hbl
  have hsm := hsm.trans hsm1
  have Hwr := Lib.hid hwr
  clear hown1 hgr hblk1 hwr hbl hat hSw hsm1
  go_wp2_with fail
  rw [rounds_succ]
  go_wp2_with fail
  go_end0
  refine ⟨⟨_, rfl⟩, ?_, hsm, hb⟩
  have h := Hwr.out
  simpa [be, Hxs1.out] using h

set_option maxRecDepth 100000 in
set_option maxHeartbeats 4000000 in
theorem rwnum_at4 (S : Nat → Prop) (B g : Nat) (xs : List UInt8) (n : Int) (w : World) (h : WrS 125 S B w g xs 0) (hS : ∀ b, S b → b < w.heap.size) (hn0 : 0 ≤ n) (hN : n < 4294967296) (hx : xs.length ≤ 1000000000) :
    Calls Try.prog 78 #[.pointer (some ⟨g, 0, none⟩), .int .i64 4, .int .i64 n] w fun e w' => (∃ v, e = .returned v) ∧ WrS 125 S B w' g (xs ++ be 4 n.toNat) 0 ∧ Same S w w' ∧ Below B w w' := by
  obtain ⟨i0, hi, hz0, hz1, hz2⟩ := info_parts infoU8
  obtain ⟨N, hNn⟩ : ∃ N : Nat, (N : Int) = n := ⟨n.toNat, by omega⟩
  have hbe : n.toNat = N := by omega
  rw [hbe]
  have y0 : Value.int .u8 (n / 16777216) = .int .u8 (byteOf N 3).toNat := by rw [byteOf_nat]; congr 1; subst hNn; first | rfl | (simp; done) | (simp; omega)
  have y1 : Value.int .u8 (n / 65536 % 256) = .int .u8 (byteOf N 2).toNat := by rw [byteOf_nat]; congr 1; subst hNn; first | rfl | (simp; done) | (simp; omega)
  have y2 : Value.int .u8 (n / 256 % 256) = .int .u8 (byteOf N 1).toNat := by rw [byteOf_nat]; congr 1; subst hNn; first | rfl | (simp; done) | (simp; omega)
  have y3 : Value.int .u8 (n % 256) = .int .u8 (byteOf N 0).toNat := by rw [byteOf_nat]; congr 1; subst hNn; first | rfl | (simp; done) | (simp; omega)
  have Y := Lib.hid ((⟨y0, y1, y2, y3, trivial⟩ : Value.int .u8 (n / 16777216) = .int .u8 (byteOf N 3).toNat ∧ Value.int .u8 (n / 65536 % 256) = .int .u8 (byteOf N 2).toNat ∧ Value.int .u8 (n / 256 % 256) = .int .u8 (byteOf N 1).toNat ∧ Value.int .u8 (n % 256) = .int .u8 (byteOf N 0).toNat ∧ True))
  have Hx := Lib.hid hx
  have HN := Lib.hid hNn
  clear hbe hNn hx y0 y1 y2 y3
  have hb : Below B w w := Below.refl _ _
  have hsm : Same S w w := Same.refl _ _
  have HS := Lib.hid hS
  clear hS
  go_enter Try.func78, Try.ntmps78
  obtain ⟨hB, hSg, v0, hblk0, hown0, hvS⟩ := h
  have HvS0 := Lib.hid hvS
  clear hvS
  have hgs := (Array.getElem?_eq_some_iff.1 hblk0).1
  have Hown0 := Lib.hid hown0
  have Hblk0 := Lib.hid hblk0
  obtain ⟨c00, c01, f00, f01⟩ := cells2 hblk0
  clear hown0 hblk0
  go_wp2_with fail
  refine wp_loop_rounds 5 ?_
  rw [rounds_succ]
  go_wp2_with (at_builtin; refine wpList_append_own_at _ rfl _ _ 31 rfl B 5 i0 (.int .u8 0) 1 1 Try.underlying31 hi hz0 hz1 hz2 rfl (by decide) v0 _ _ rfl (own_keep Hown0.out (box_below _ (.cells #[.int .u8 (n / 16777216)] 5))) ⟨w.heap.size, 0, none⟩ 1 1 [.int .u8 (n / 16777216)] rfl rfl (cell_one _ _ _) (by simp [Value.oneCell']) ?h30 ?h40 ?h50 ?_)
  case h30 => have := Hx.out; simp [maxLen]; omega
  case h40 => have := Hx.out; simp; omega
  case h50 => simp; omega
  intro u0 w0 hown1 hgr _ hat
  have hSw : ∀ b, S b → b < w.heap.size := fun b hb0 => Nat.lt_of_lt_of_le (HS.out b hb0) hsm.size
  obtain ⟨hblk1, hwr, hsm1, hbl⟩ := wr_more Y.out.1 (by decide) hB hSg hSw HvS0.out Hblk0.out Hown0.out hown1 hgr hat
  obtain ⟨d0, d1, e0, e1⟩ := cells2 hblk1
  obtain ⟨A0, cc0, rfl⟩ := (RowAt.of_own hown1).slice
  have hb := hb.trans hbl
  have hsm := hsm.trans hsm1
  have Hwr := Lib.hid hwr
  clear hown1 hgr hblk1 hwr hbl hat hSw hsm1
  go_wp2_with fail
  obtain ⟨W1, hW⟩ : ∃ W, w0.setCell ⟨g, 0, none⟩ (.slice A0 (xs.length + 1) cc0) = W := ⟨_, rfl⟩
  rw [hW] at Hwr hb hsm ⊢
  obtain ⟨xs1, hxs⟩ : ∃ ys, ys = xs ++ [byteOf N 3] := ⟨_, rfl⟩
  rw [← hxs] at Hwr
  have Hxs1 := Lib.hid hxs
  clear d0 d1 e0 e1 hW hxs
  obtain ⟨-, -, v1, hblk, hown, hvS⟩ := Hwr.out
  have HvS1 := Lib.hid hvS
  clear hvS
  have hgs := (Array.getElem?_eq_some_iff.1 hblk).1
  have Hown1 := Lib.hid hown
  have Hblk1 := Lib.hid hblk
  obtain ⟨c10, c11, f10, f11⟩ := cells2 hblk
  clear hown hblk
  rw [rounds_succ]
  go_wp2_with (at_builtin; refine wpList_append_own_at _ rfl _ _ 31 rfl B 5 i0 (.int .u8 0) 1 1 Try.underlying31 hi hz0 hz1 hz2 rfl (by decide) v1 _ _ rfl (own_keep Hown1.out (box_below _ (.cells #[.int .u8 (n / 65536 % 256)] 5))) ⟨W1.heap.size, 0, none⟩ 1 1 [.int .u8 (n / 65536 % 256)] rfl rfl (cell_one _ _ _) (by simp [Value.oneCell']) ?h31 ?h41 ?h51 ?_)
  case h31 => have := Hx.out; have := congrArg List.length Hxs1.out; simp at this; simp [maxLen]; omega
  case h41 => have := Hx.out; have := congrArg List.length Hxs1.out; simp at this; simp; omega
  case h51 => simp; omega
  intro u1 w1 hown1 hgr _ hat
  have hSw : ∀ b, S b → b < W1.heap.size := fun b hb0 => Nat.lt_of_lt_of_le (HS.out b hb0) hsm.size
  obtain ⟨hblk1, hwr, hsm1, hbl⟩ := wr_more Y.out.2.1 (by decide) hB hSg hSw HvS1.out Hblk1.out Hown1.out hown1 hgr hat
  obtain ⟨d0, d1, e0, e1⟩ := cells2 hblk1
  obtain ⟨A1, cc1, rfl⟩ := (RowAt.of_own hown1).slice
  have hb := hb.trans hbl
  have hsm := hsm.trans hsm1
  have Hwr := Lib.hid hwr
  clear hown1 hgr hblk1 hwr hbl hat hSw hsm1
  go_wp2_with fail
  obtain ⟨W2, hW⟩ : ∃ W, w1.setCell ⟨g, 0, none⟩ (.slice A1 (xs1.length + 1) cc1) = W := ⟨_, rfl⟩
  rw [hW] at Hwr hb hsm ⊢
  obtain ⟨xs2, hxs⟩ : ∃ ys, ys = xs1 ++ [byteOf N 2] := ⟨_, rfl⟩
  rw [← hxs] at Hwr
  have Hxs2 := Lib.hid hxs
  clear d0 d1 e0 e1 hW hxs
  obtain ⟨-, -, v2, hblk, hown, hvS⟩ := Hwr.out
  have HvS2 := Lib.hid hvS
  clear hvS
  have hgs := (Array.getElem?_eq_some_iff.1 hblk).1
  have Hown2 := Lib.hid hown
  have Hblk2 := Lib.hid hblk
  obtain ⟨c20, c21, f20, f21⟩ := cells2 hblk
  clear hown hblk
  rw [rounds_succ]
  go_wp2_with (at_builtin; refine wpList_append_own_at _ rfl _ _ 31 rfl B 5 i0 (.int .u8 0) 1 1 Try.underlying31 hi hz0 hz1 hz2 rfl (by decide) v2 _ _ rfl (own_keep Hown2.out (box_below _ (.cells #[.int .u8 (n / 256 % 256)] 5))) ⟨W2.heap.size, 0, none⟩ 1 1 [.int .u8 (n / 256 % 256)] rfl rfl (cell_one _ _ _) (by simp [Value.oneCell']) ?h32 ?h42 ?h52 ?_)
  case h32 => have := Hx.out; have := congrArg List.length Hxs1.out; simp at this; have := congrArg List.length Hxs2.out; simp at this; simp [maxLen]; omega
  case h42 => have := Hx.out; have := congrArg List.length Hxs1.out; simp at this; have := congrArg List.length Hxs2.out; simp at this; simp; omega
  case h52 => simp; omega
  intro u2 w2 hown1 hgr _ hat
  have hSw : ∀ b, S b → b < W2.heap.size := fun b hb0 => Nat.lt_of_lt_of_le (HS.out b hb0) hsm.size
  obtain ⟨hblk1, hwr, hsm1, hbl⟩ := wr_more Y.out.2.2.1 (by decide) hB hSg hSw HvS2.out Hblk2.out Hown2.out hown1 hgr hat
  obtain ⟨d0, d1, e0, e1⟩ := cells2 hblk1
  obtain ⟨A2, cc2, rfl⟩ := (RowAt.of_own hown1).slice
  have hb := hb.trans hbl
  have hsm := hsm.trans hsm1
  have Hwr := Lib.hid hwr
  clear hown1 hgr hblk1 hwr hbl hat hSw hsm1
  go_wp2_with fail
  obtain ⟨W3, hW⟩ : ∃ W, w2.setCell ⟨g, 0, none⟩ (.slice A2 (xs2.length + 1) cc2) = W := ⟨_, rfl⟩
  rw [hW] at Hwr hb hsm ⊢
  obtain ⟨xs3, hxs⟩ : ∃ ys, ys = xs2 ++ [byteOf N 1] := ⟨_, rfl⟩
  rw [← hxs] at Hwr
  have Hxs3 := Lib.hid hxs
  clear d0 d1 e0 e1 hW hxs
  obtain ⟨-, -, v3, hblk, hown, hvS⟩ := Hwr.out
  have HvS3 := Lib.hid hvS
  clear hvS
  have hgs := (Array.getElem?_eq_some_iff.1 hblk).1
  have Hown3 := Lib.hid hown
  have Hblk3 := Lib.hid hblk
  obtain ⟨c30, c31, f30, f31⟩ := cells2 hblk
  clear hown hblk
  rw [rounds_succ]
  go_wp2_with (at_builtin; refine wpList_append_own_at _ rfl _ _ 31 rfl B 5 i0 (.int .u8 0) 1 1 Try.underlying31 hi hz0 hz1 hz2 rfl (by decide) v3 _ _ rfl (own_keep Hown3.out (box_below _ (.cells #[.int .u8 (n % 256)] 5))) ⟨W3.heap.size, 0, none⟩ 1 1 [.int .u8 (n % 256)] rfl rfl (cell_one _ _ _) (by simp [Value.oneCell']) ?h33 ?h43 ?h53 ?_)
  case h33 => have := Hx.out; have := congrArg List.length Hxs1.out; simp at this; have := congrArg List.length Hxs2.out; simp at this; have := congrArg List.length Hxs3.out; simp at this; simp [maxLen]; omega
  case h43 => have := Hx.out; have := congrArg List.length Hxs1.out; simp at this; have := congrArg List.length Hxs2.out; simp at this; have := congrArg List.length Hxs3.out; simp at this; simp; omega
  case h53 => simp; omega
  intro u3 w3 hown1 hgr _ hat
  have hSw : ∀ b, S b → b < W3.heap.size := fun b hb0 => Nat.lt_of_lt_of_le (HS.out b hb0) hsm.size
  obtain ⟨hblk1, hwr, hsm1, hbl⟩ := wr_more Y.out.2.2.2.1 (by decide) hB hSg hSw HvS3.out Hblk3.out Hown3.out hown1 hgr hat
  obtain ⟨d0, d1, e0, e1⟩ := cells2 hblk1
  obtain ⟨A3, cc3, rfl⟩ := (RowAt.of_own hown1).slice
  have hb := hb.trans hbl
  have hsm := hsm.trans hsm1
  have Hwr := Lib.hid hwr
  clear hown1 hgr hblk1 hwr hbl hat hSw hsm1
  go_wp2_with fail
  rw [rounds_succ]
  go_wp2_with fail
  go_end0
  refine ⟨⟨_, rfl⟩, ?_, hsm, hb⟩
  have h := Hwr.out
  simpa [be, Hxs1.out, Hxs2.out, Hxs3.out] using h

set_option maxRecDepth 100000 in
set_option maxHeartbeats 4000000 in
theorem rwnum_at6 (S : Nat → Prop) (B g : Nat) (xs : List UInt8) (n : Int) (w : World) (h : WrS 125 S B w g xs 0) (hS : ∀ b, S b → b < w.heap.size) (hn0 : 0 ≤ n) (hN : n < 281474976710656) (hx : xs.length ≤ 1000000000) :
    Calls Try.prog 78 #[.pointer (some ⟨g, 0, none⟩), .int .i64 6, .int .i64 n] w fun e w' => (∃ v, e = .returned v) ∧ WrS 125 S B w' g (xs ++ be 6 n.toNat) 0 ∧ Same S w w' ∧ Below B w w' := by
  obtain ⟨i0, hi, hz0, hz1, hz2⟩ := info_parts infoU8
  obtain ⟨N, hNn⟩ : ∃ N : Nat, (N : Int) = n := ⟨n.toNat, by omega⟩
  have hbe : n.toNat = N := by omega
  rw [hbe]
  have y0 : Value.int .u8 (n / 1099511627776) = .int .u8 (byteOf N 5).toNat := by rw [byteOf_nat]; congr 1; subst hNn; first | rfl | (simp; done) | (simp; omega)
  have y1 : Value.int .u8 (n / 4294967296 % 256) = .int .u8 (byteOf N 4).toNat := by rw [byteOf_nat]; congr 1; subst hNn; first | rfl | (simp; done) | (simp; omega)
  have y2 : Value.int .u8 (n / 16777216 % 256) = .int .u8 (byteOf N 3).toNat := by rw [byteOf_nat]; congr 1; subst hNn; first | rfl | (simp; done) | (simp; omega)
  have y3 : Value.int .u8 (n / 65536 % 256) = .int .u8 (byteOf N 2).toNat := by rw [byteOf_nat]; congr 1; subst hNn; first | rfl | (simp; done) | (simp; omega)
  have y4 : Value.int .u8 (n / 256 % 256) = .int .u8 (byteOf N 1).toNat := by rw [byteOf_nat]; congr 1; subst hNn; first | rfl | (simp; done) | (simp; omega)
  have y5 : Value.int .u8 (n % 256) = .int .u8 (byteOf N 0).toNat := by rw [byteOf_nat]; congr 1; subst hNn; first | rfl | (simp; done) | (simp; omega)
  have Y := Lib.hid ((⟨y0, y1, y2, y3, y4, y5, trivial⟩ : Value.int .u8 (n / 1099511627776) = .int .u8 (byteOf N 5).toNat ∧ Value.int .u8 (n / 4294967296 % 256) = .int .u8 (byteOf N 4).toNat ∧ Value.int .u8 (n / 16777216 % 256) = .int .u8 (byteOf N 3).toNat ∧ Value.int .u8 (n / 65536 % 256) = .int .u8 (byteOf N 2).toNat ∧ Value.int .u8 (n / 256 % 256) = .int .u8 (byteOf N 1).toNat ∧ Value.int .u8 (n % 256) = .int .u8 (byteOf N 0).toNat ∧ True))
  have Hx := Lib.hid hx
  have HN := Lib.hid hNn
  clear hbe hNn hx y0 y1 y2 y3 y4 y5
  have hb : Below B w w := Below.refl _ _
  have hsm : Same S w w := Same.refl _ _
  have HS := Lib.hid hS
  clear hS
  go_enter Try.func78, Try.ntmps78
  obtain ⟨hB, hSg, v0, hblk0, hown0, hvS⟩ := h
  have HvS0 := Lib.hid hvS
  clear hvS
  have hgs := (Array.getElem?_eq_some_iff.1 hblk0).1
  have Hown0 := Lib.hid hown0
  have Hblk0 := Lib.hid hblk0
  obtain ⟨c00, c01, f00, f01⟩ := cells2 hblk0
  clear hown0 hblk0
  go_wp2_with fail
  refine wp_loop_rounds 7 ?_
  rw [rounds_succ]
  go_wp2_with (at_builtin; refine wpList_append_own_at _ rfl _ _ 31 rfl B 5 i0 (.int .u8 0) 1 1 Try.underlying31 hi hz0 hz1 hz2 rfl (by decide) v0 _ _ rfl (own_keep Hown0.out (box_below _ (.cells #[.int .u8 (n / 1099511627776)] 5))) ⟨w.heap.size, 0, none⟩ 1 1 [.int .u8 (n / 1099511627776)] rfl rfl (cell_one _ _ _) (by simp [Value.oneCell']) ?h30 ?h40 ?h50 ?_)
  case h30 => have := Hx.out; simp [maxLen]; omega
  case h40 => have := Hx.out; simp; omega
  case h50 => simp; omega
  intro u0 w0 hown1 hgr _ hat
  have hSw : ∀ b, S b → b < w.heap.size := fun b hb0 => Nat.lt_of_lt_of_le (HS.out b hb0) hsm.size
  obtain ⟨hblk1, hwr, hsm1, hbl⟩ := wr_more Y.out.1 (by decide) hB hSg hSw HvS0.out Hblk0.out Hown0.out hown1 hgr hat
  obtain ⟨d0, d1, e0, e1⟩ := cells2 hblk1
  obtain ⟨A0, cc0, rfl⟩ := (RowAt.of_own hown1).slice
  have hb := hb.trans hbl
  have hsm := hsm.trans hsm1
  have Hwr := Lib.hid hwr
  clear hown1 hgr hblk1 hwr hbl hat hSw hsm1
  go_wp2_with fail
  obtain ⟨W1, hW⟩ : ∃ W, w0.setCell ⟨g, 0, none⟩ (.slice A0 (xs.length + 1) cc0) = W := ⟨_, rfl⟩
  rw [hW] at Hwr hb hsm ⊢
  obtain ⟨xs1, hxs⟩ : ∃ ys, ys = xs ++ [byteOf N 5] := ⟨_, rfl⟩
  rw [← hxs] at Hwr
  have Hxs1 := Lib.hid hxs
  clear d0 d1 e0 e1 hW hxs
  obtain ⟨-, -, v1, hblk, hown, hvS⟩ := Hwr.out
  have HvS1 := Lib.hid hvS
  clear hvS
  have hgs := (Array.getElem?_eq_some_iff.1 hblk).1
  have Hown1 := Lib.hid hown
  have Hblk1 := Lib.hid hblk
  obtain ⟨c10, c11, f10, f11⟩ := cells2 hblk
  clear hown hblk
  rw [rounds_succ]
  go_wp2_with (at_builtin; refine wpList_append_own_at _ rfl _ _ 31 rfl B 5 i0 (.int .u8 0) 1 1 Try.underlying31 hi hz0 hz1 hz2 rfl (by decide) v1 _ _ rfl (own_keep Hown1.out (box_below _ (.cells #[.int .u8 (n / 4294967296 % 256)] 5))) ⟨W1.heap.size, 0, none⟩ 1 1 [.int .u8 (n / 4294967296 % 256)] rfl rfl (cell_one _ _ _) (by simp [Value.oneCell']) ?h31 ?h41 ?h51 ?_)
  case h31 => have := Hx.out; have := congrArg List.length Hxs1.out; simp at this; simp [maxLen]; omega
  case h41 => have := Hx.out; have := congrArg List.length Hxs1.out; simp at this; simp; omega
  case h51 => simp; omega
  intro u1 w1 hown1 hgr _ hat
  have hSw : ∀ b, S b → b < W1.heap.size := fun b hb0 => Nat.lt_of_lt_of_le (HS.out b hb0) hsm.size
  obtain ⟨hblk1, hwr, hsm1, hbl⟩ := wr_more Y.out.2.1 (by decide) hB hSg hSw HvS1.out Hblk1.out Hown1.out hown1 hgr hat
  obtain ⟨d0, d1, e0, e1⟩ := cells2 hblk1
  obtain ⟨A1, cc1, rfl⟩ := (RowAt.of_own hown1).slice
  have hb := hb.trans hbl
  have hsm := hsm.trans hsm1
  have Hwr := Lib.hid hwr
  clear hown1 hgr hblk1 hwr hbl hat hSw hsm1
  go_wp2_with fail
  obtain ⟨W2, hW⟩ : ∃ W, w1.setCell ⟨g, 0, none⟩ (.slice A1 (xs1.length + 1) cc1) = W := ⟨_, rfl⟩
  rw [hW] at Hwr hb hsm ⊢
  obtain ⟨xs2, hxs⟩ : ∃ ys, ys = xs1 ++ [byteOf N 4] := ⟨_, rfl⟩
  rw [← hxs] at Hwr
  have Hxs2 := Lib.hid hxs
  clear d0 d1 e0 e1 hW hxs
  obtain ⟨-, -, v2, hblk, hown, hvS⟩ := Hwr.out
  have HvS2 := Lib.hid hvS
  clear hvS
  have hgs := (Array.getElem?_eq_some_iff.1 hblk).1
  have Hown2 := Lib.hid hown
  have Hblk2 := Lib.hid hblk
  obtain ⟨c20, c21, f20, f21⟩ := cells2 hblk
  clear hown hblk
  rw [rounds_succ]
  go_wp2_with (at_builtin; refine wpList_append_own_at _ rfl _ _ 31 rfl B 5 i0 (.int .u8 0) 1 1 Try.underlying31 hi hz0 hz1 hz2 rfl (by decide) v2 _ _ rfl (own_keep Hown2.out (box_below _ (.cells #[.int .u8 (n / 16777216 % 256)] 5))) ⟨W2.heap.size, 0, none⟩ 1 1 [.int .u8 (n / 16777216 % 256)] rfl rfl (cell_one _ _ _) (by simp [Value.oneCell']) ?h32 ?h42 ?h52 ?_)
  case h32 => have := Hx.out; have := congrArg List.length Hxs1.out; simp at this; have := congrArg List.length Hxs2.out; simp at this; simp [maxLen]; omega
  case h42 => have := Hx.out; have := congrArg List.length Hxs1.out; simp at this; have := congrArg List.length Hxs2.out; simp at this; simp; omega
  case h52 => simp; omega
  intro u2 w2 hown1 hgr _ hat
  have hSw : ∀ b, S b → b < W2.heap.size := fun b hb0 => Nat.lt_of_lt_of_le (HS.out b hb0) hsm.size
  obtain ⟨hblk1, hwr, hsm1, hbl⟩ := wr_more Y.out.2.2.1 (by decide) hB hSg hSw HvS2.out Hblk2.out Hown2.out hown1 hgr hat
  obtain ⟨d0, d1, e0, e1⟩ := cells2 hblk1
  obtain ⟨A2, cc2, rfl⟩ := (RowAt.of_own hown1).slice
  have hb := hb.trans hbl
  have hsm := hsm.trans hsm1
  have Hwr := Lib.hid hwr
  clear hown1 hgr hblk1 hwr hbl hat hSw hsm1
  go_wp2_with fail
  obtain ⟨W3, hW⟩ : ∃ W, w2.setCell ⟨g, 0, none⟩ (.slice A2 (xs2.length + 1) cc2) = W := ⟨_, rfl⟩
  rw [hW] at Hwr hb hsm ⊢
  obtain ⟨xs3, hxs⟩ : ∃ ys, ys = xs2 ++ [byteOf N 3] := ⟨_, rfl⟩
  rw [← hxs] at Hwr
  have Hxs3 := Lib.hid hxs
  clear d0 d1 e0 e1 hW hxs
  obtain ⟨-, -, v3, hblk, hown, hvS⟩ := Hwr.out
  have HvS3 := Lib.hid hvS
  clear hvS
  have hgs := (Array.getElem?_eq_some_iff.1 hblk).1
  have Hown3 := Lib.hid hown
  have Hblk3 := Lib.hid hblk
  obtain ⟨c30, c31, f30, f31⟩ := cells2 hblk
  clear hown hblk
  rw [rounds_succ]
  go_wp2_with (at_builtin; refine wpList_append_own_at _ rfl _ _ 31 rfl B 5 i0 (.int .u8 0) 1 1 Try.underlying31 hi hz0 hz1 hz2 rfl (by decide) v3 _ _ rfl (own_keep Hown3.out (box_below _ (.cells #[.int .u8 (n / 65536 % 256)] 5))) ⟨W3.heap.size, 0, none⟩ 1 1 [.int .u8 (n / 65536 % 256)] rfl rfl (cell_one _ _ _) (by simp [Value.oneCell']) ?h33 ?h43 ?h53 ?_)
  case h33 => have := Hx.out; have := congrArg List.length Hxs1.out; simp at this; have := congrArg List.length Hxs2.out; simp at this; have := congrArg List.length Hxs3.out; simp at this; simp [maxLen]; omega
  case h43 => have := Hx.out; have := congrArg List.length Hxs1.out; simp at this; have := congrArg List.length Hxs2.out; simp at this; have := congrArg List.length Hxs3.out; simp at this; simp; omega
  case h53 => simp; omega
  intro u3 w3 hown1 hgr _ hat
  have hSw : ∀ b, S b → b < W3.heap.size := fun b hb0 => Nat.lt_of_lt_of_le (HS.out b hb0) hsm.size
  obtain ⟨hblk1, hwr, hsm1, hbl⟩ := wr_more Y.out.2.2.2.1 (by decide) hB hSg hSw HvS3.out Hblk3.out Hown3.out hown1 hgr hat
  obtain ⟨d0, d1, e0, e1⟩ := cells2 hblk1
  obtain ⟨A3, cc3, rfl⟩ := (RowAt.of_own hown1).slice
  have hb := hb.trans hbl
  have hsm := hsm.trans hsm1
  have Hwr := Lib.hid hwr
  clear hown1 hgr hblk1 hwr hbl hat hSw hsm1
  go_wp2_with fail
  obtain ⟨W4, hW⟩ : ∃ W, w3.setCell ⟨g, 0, none⟩ (.slice A3 (xs3.length + 1) cc3) = W := ⟨_, rfl⟩
  rw [hW] at Hwr hb hsm ⊢
  obtain ⟨xs4, hxs⟩ : ∃ ys, ys = xs3 ++ [byteOf N 2] := ⟨_, rfl⟩
  rw [← hxs] at Hwr
  have Hxs4 := Lib.hid hxs
  clear d0 d1 e0 e1 hW hxs
  obtain ⟨-, -, v4, hblk, hown, hvS⟩ := Hwr.out
  have HvS4 := Lib.hid hvS
  clear hvS
  have hgs := (Array.getElem?_eq_some_iff.1 hblk).1
  have Hown4 := Lib.hid hown
  have Hblk4 := Lib.hid hblk
  obtain ⟨c40, c41, f40, f41⟩ := cells2 hblk
  clear hown hblk
  rw [rounds_succ]
  go_wp2_with (at_builtin; refine wpList_append_own_at _ rfl _ _ 31 rfl B 5 i0 (.int .u8 0) 1 1 Try.underlying31 hi hz0 hz1 hz2 rfl (by decide) v4 _ _ rfl (own_keep Hown4.out (box_below _ (.cells #[.int .u8 (n / 256 % 256)] 5))) ⟨W4.heap.size, 0, none⟩ 1 1 [.int .u8 (n / 256 % 256)] rfl rfl (cell_one _ _ _) (by simp [Value.oneCell']) ?h34 ?h44 ?h54 ?_)
  case h34 => have := Hx.out; have := congrArg List.length Hxs1.out; simp at this; have := congrArg List.length Hxs2.out; simp at this; have := congrArg List.length Hxs3.out; simp at this; have := congrArg List.length Hxs4.out; simp at this; simp [maxLen]; omega
  case h44 => have := Hx.out; have := congrArg List.length Hxs1.out; simp at this; have := congrArg List.length Hxs2.out; simp at this; have := congrArg List.length Hxs3.out; simp at this; have := congrArg List.length Hxs4.out; simp at this; simp; omega
  case h54 => simp; omega
  intro u4 w4 hown1 hgr _ hat
  have hSw : ∀ b, S b → b < W4.heap.size := fun b hb0 => Nat.lt_of_lt_of_le (HS.out b hb0) hsm.size
  obtain ⟨hblk1, hwr, hsm1, hbl⟩ := wr_more Y.out.2.2.2.2.1 (by decide) hB hSg hSw HvS4.out Hblk4.out Hown4.out hown1 hgr hat
  obtain ⟨d0, d1, e0, e1⟩ := cells2 hblk1
  obtain ⟨A4, cc4, rfl⟩ := (RowAt.of_own hown1).slice
  have hb := hb.trans hbl
  have hsm := hsm.trans hsm1
  have Hwr := Lib.hid hwr
  clear hown1 hgr hblk1 hwr hbl hat hSw hsm1
  go_wp2_with fail
  obtain ⟨W5, hW⟩ : ∃ W, w4.setCell ⟨g, 0, none⟩ (.slice A4 (xs4.length + 1) cc4) = W := ⟨_, rfl⟩
  rw [hW] at Hwr hb hsm ⊢
  obtain ⟨xs5, hxs⟩ : ∃ ys, ys = xs4 ++ [byteOf N 1] := ⟨_, rfl⟩
  rw [← hxs] at Hwr
  have Hxs5 := Lib.hid hxs
  clear d0 d1 e0 e1 hW hxs
  obtain ⟨-, -, v5, hblk, hown, hvS⟩ := Hwr.out
  have HvS5 := Lib.hid hvS
  clear hvS
  have hgs := (Array.getElem?_eq_some_iff.1 hblk).1
  have Hown5 := Lib.hid hown
  have Hblk5 := Lib.hid hblk
  obtain ⟨c50, c51, f50, f51⟩ := cells2 hblk
  clear hown hblk
  rw [rounds_succ]
  go_wp2_with (at_builtin; refine wpList_append_own_at _ rfl _ _ 31 rfl B 5 i0 (.int .u8 0) 1 1 Try.underlying31 hi hz0 hz1 hz2 rfl (by decide) v5 _ _ rfl (own_keep Hown5.out (box_below _ (.cells #[.int .u8 (n % 256)] 5))) ⟨W5.heap.size, 0, none⟩ 1 1 [.int .u8 (n % 256)] rfl rfl (cell_one _ _ _) (by simp [Value.oneCell']) ?h35 ?h45 ?h55 ?_)
  case h35 => have := Hx.out; have := congrArg List.length Hxs1.out; simp at this; have := congrArg List.length Hxs2.out; simp at this; have := congrArg List.length Hxs3.out; simp at this; have := congrArg List.length Hxs4.out; simp at this; have := congrArg List.length Hxs5.out; simp at this; simp [maxLen]; omega
  case h45 => have := Hx.out; have := congrArg List.length Hxs1.out; simp at this; have := congrArg List.length Hxs2.out; simp at this; have := congrArg List.length Hxs3.out; simp at this; have := congrArg List.length Hxs4.out; simp at this; have := congrArg List.length Hxs5.out; simp at this; simp; omega
  case h55 => simp; omega
  intro u5 w5 hown1 hgr _ hat
  have hSw : ∀ b, S b → b < W5.heap.size := fun b hb0 => Nat.lt_of_lt_of_le (HS.out b hb0) hsm.size
  obtain ⟨hblk1, hwr, hsm1, hbl⟩ := wr_more Y.out.2.2.2.2.2.1 (by decide) hB hSg hSw HvS5.out Hblk5.out Hown5.out hown1 hgr hat
  obtain ⟨d0, d1, e0, e1⟩ := cells2 hblk1
  obtain ⟨A5, cc5, rfl⟩ := (RowAt.of_own hown1).slice
  have hb := hb.trans hbl
  have hsm := hsm.trans hsm1
  have Hwr := Lib.hid hwr
  clear hown1 hgr hblk1 hwr hbl hat hSw hsm1
  go_wp2_with fail
  rw [rounds_succ]
  go_wp2_with fail
  go_end0
  refine ⟨⟨_, rfl⟩, ?_, hsm, hb⟩
  have h := Hwr.out
  simpa [be, Hxs1.out, Hxs2.out, Hxs3.out, Hxs4.out, Hxs5.out] using h
end Go.Proofs.Ytahagecdebadfaa

namespace Go.Proofs.Ytahagecdebadfaa
open Go.RowKit

theorem sizeU8 (w : World) : (Go.sizeOf 5).run Try.prog w = .ok 1 w := by
  obtain ⟨i0, hi, hz0, hz1, hz2⟩ := info_parts infoU8
  simp [Go.sizeOf, typeInfo, hi, hz1]
theorem elemBytes : Try.prog.elem 31 = 5 := by kernel_rfl

theorem bytes_sliced {S : Nat → Prop} {w : World} {a : Option Addr} {n c : Nat} {xs : List UInt8} (h : Bytes S w (.slice a n c) xs) (l k m : Nat) (h1 : l ≤ k) (h2 : k ≤ n) (h3 : k ≤ m) (h4 : m ≤ c) :
    Bytes S w (sliced a l k m 1) ((xs.take k).drop l) := by
  have hn : n = xs.length := by obtain ⟨A, c1, e⟩ := h.slice; injection e
  subst hn
  have hl : ((xs.take k).drop l).length = k - l := by simp; omega
  unfold sliced
  rcases h.2 with ⟨h0, hv | ⟨a', c', hv⟩⟩ | ⟨b, o, c', hv, hn, hc, hS, hb, hcell⟩
  · injection hv with e1 e2 e3
    subst e1 e3
    have hm : m = 0 := by omega
    subst hm
    have e0 : l = 0 := by omega
    have e5 : k = 0 := by omega
    subst e0 e5
    exact ⟨by simp [byteCells], .inl ⟨by simp, .inl (by simp)⟩⟩
  · injection hv with e1 e2 e3
    subst e1
    refine ⟨by simp [byteCells_length], .inl ⟨by omega, .inr ⟨if m = l then a' else a'.add (l * 1), m - l, ?_⟩⟩⟩
    have : k - l = 0 := by omega
    rw [this]
    split <;> rfl
  · injection hv with e1 e2 e3
    subst e1 e3
    by_cases hkl : k = l
    · subst hkl
      refine ⟨by simp [byteCells_length], .inl ⟨by omega, .inr ⟨if m = k then ⟨b, o, none⟩ else (⟨b, o, none⟩ : Addr).add (k * 1), m - k, ?_⟩⟩⟩
      rw [Nat.sub_self]
      split <;> rfl
    · have hml : m ≠ l := by omega
      rw [if_neg hml]
      refine ⟨by simp [byteCells_length], .inr ⟨b, o + l, m - l, ?_, by omega, by unfold maxLen at *; omega, hS, hb, fun i u hu => ?_⟩⟩
      · rw [hl]
        simp [add_plain]
      · have e : byteCells ((xs.take k).drop l) = ((byteCells xs).take k).drop l := by simp [byteCells]
        rw [e, List.getElem?_drop, List.getElem?_take] at hu
        split at hu
        · have := hcell _ _ hu
          rwa [← Nat.add_assoc] at this
        · cases hu

/-- A piece from l to k. -/
theorem bytes_lh {S : Nat → Prop} {w : World} {v : Value} {xs : List UInt8} (h : Bytes S w v xs) (l k : Int) (h0 : 0 ≤ l) (h1 : l ≤ k) (h2 : k ≤ xs.length) :
    ∃ a n c, Bytes S w (.slice a n c) ((xs.take k.toNat).drop l.toNat) ∧ n = k.toNat - l.toNat ∧ ∀ w0 kl kh, (Instr.sliceAt 31 v (some (.int kl l)) (some (.int kh k)) none).run Try.prog w0 = .ok (.slice a n c) w0 := by
  obtain ⟨A, c, rfl⟩ := h.slice
  have hc : xs.length ≤ c := by
    rcases h.2 with ⟨h0, hv | ⟨a', c', hv⟩⟩ | ⟨b, o, c', hv, hn, hc, hS, hb, hcell⟩
    · omega
    · omega
    · injection hv with e1 e2 e3
      omega
  refine ⟨_, _, _, bytes_sliced h l.toNat k.toNat c (by omega) (by omega) (by omega) (by omega), rfl, fun w0 kl kh => ?_⟩
  have ht : Try.prog.underlying 31 = some (.slice (Try.prog.elem 31)) := by rw [elemBytes]; exact Try.underlying31
  rw [run_sliceAt_slice _ _ _ _ _ _ ht, run_slice_lh _ _ _ _ _ ht kl kh l k h0 h1 (by omega), elemBytes, sizeU8]
  rfl
/-- A piece from l on. -/
theorem bytes_l {S : Nat → Prop} {w : World} {v : Value} {xs : List UInt8} (h : Bytes S w v xs) (l : Int) (h0 : 0 ≤ l) (h2 : l ≤ xs.length) :
    ∃ a n c, Bytes S w (.slice a n c) (xs.drop l.toNat) ∧ n = xs.length - l.toNat ∧ ∀ w0 kl, (Instr.sliceAt 31 v (some (.int kl l)) none none).run Try.prog w0 = .ok (.slice a n c) w0 := by
  obtain ⟨A, c, rfl⟩ := h.slice
  have hc : xs.length ≤ c := by
    rcases h.2 with ⟨h0, hv | ⟨a', c', hv⟩⟩ | ⟨b, o, c', hv, hn, hc, hS, hb, hcell⟩
    · omega
    · omega
    · injection hv with e1 e2 e3
      omega
  have hs := bytes_sliced h l.toNat xs.length c (by omega) (by omega) (by omega) (by omega)
  rw [List.take_length] at hs
  refine ⟨_, _, _, hs, rfl, fun w0 kl => ?_⟩
  have ht : Try.prog.underlying 31 = some (.slice (Try.prog.elem 31)) := by rw [elemBytes]; exact Try.underlying31
  rw [run_sliceAt_slice _ _ _ _ _ _ ht, run_slice_l _ _ _ _ _ ht kl l h0 h2, elemBytes, sizeU8]
  rfl
end Go.Proofs.Ytahagecdebadfaa

/- Texts that belong together, in one file: FldG, FldD, FldR, FldW, RefA, RefB, RefC, SliceB. No statement is proved here. -/
import Derived.Test.YtahagecdebadfaaGreatQFldF
import Derived.Test.YtahagecdebadfaaGreatFldC
import Derived.Deep.CutBlock
namespace Go.Proofs.YtahagecdebadfaaGreat
open Go.RowKit

theorem own_lower {w : World} {B B' size n : Nat} {e : TypeId} {v : Value} {xs : List Value} (h : w.ownsRow B' e size v n xs) (hB : B ≤ B') : w.ownsRow B e size v n xs := by
  refine ⟨h.1, ?_⟩
  rcases h.2 with h | ⟨g, cap, cur, h1, h2, h3⟩
  · exact .inl h
  · exact .inr ⟨g, cap, cur, h1, Nat.le_trans hB h2, h3⟩

/-- The tail of a number's eight bytes. -/
theorem tail_row (W : World) (b n size : Nat) (t : TypeId) (hn : n < 18446744073709551616) (h8 : size ≤ 8) (hb : W.heap[b]? = some (.cells (num8 n).toArray t (0, 0))) :
    Bytes (fun _ => True) W (.slice (some ⟨b, 8 - size, none⟩) size size) (be size n) := by
  have hl : (be size n).length = size := be_length _ _
  refine ⟨by simp [byteCells_length], .inr ⟨b, 8 - size, size, by rw [hl], by omega, by unfold maxLen; omega, trivial, (Array.getElem?_eq_some_iff.1 hb).1, fun i u hu => ?_⟩⟩
  rw [cell_of_row W b (8 - size + i) _ t (0, 0) hb]
  rw [← be_drop n size h8] at hu
  have e : byteCells ((be 8 n).drop (8 - size)) = (byteCells (be 8 n)).drop (8 - size) := by simp [byteCells]
  rw [e, ← num8_be n hn, List.getElem?_drop] at hu
  simpa using hu

set_option maxRecDepth 100000 in
set_option maxHeartbeats 2000000 in
theorem add_at1 {S1 S2 : Nat → Prop} (a1 a2 : Option Addr) (n1 n2 c1 c2 : Nat) (x1 x2 : List UInt8) (w : World)
    (h1 : Bytes S1 w (.slice a1 n1 c1) x1) (h2 : Bytes S2 w (.slice a2 n2 c2) x2) (hn1 : x1.length = n1) (hn2 : x2.length = n2) (hs1 : n1 ≤ 100000000) (hs2 : n2 < 256) :
    Calls Tryz.prog 145 #[.slice a1 n1 c1, .int .i64 1, .slice a2 n2 c2] w fun e w' => ∃ v, e = .returned (.tuple #[v, .int .i64 0]) ∧ w'.ownsRow w.heap.size 5 1 v (x1 ++ be 1 n2 ++ x2).length (byteCells (x1 ++ be 1 n2 ++ x2)) ∧ Below w.heap.size w w' := by
  obtain ⟨m, hm⟩ : ∃ m : Int, m = n2 := ⟨_, rfl⟩
  have q1 : ¬ (m > 65536) := by omega
  have q2 : 0 ≤ m := by omega
  have q3 : m < 4294967296 := by omega
  have hr : ∀ W, Calls Tryz.prog 147 #[.int .i64 1] W fun e w' => e = .returned (.bool true) ∧ W = w' := fun W => (rightSize_any 1 W).mono (by rintro _ _ ⟨rfl, rfl⟩; exact ⟨rfl, rfl⟩)
  have hf : ∀ W, Calls Tryz.prog 148 #[.int .u64 n2, .int .i64 1] W fun e w' => e = .returned (.bool true) ∧ W = w' := by
    intro W
    refine (fits_any n2 1 W (by omega) (by decide) (by decide)).mono ?_
    rintro _ _ ⟨rfl, rfl⟩
    exact ⟨by simp [fitsB]; omega, rfl⟩
  have Hr := Lib.hid hr
  have Hf := Lib.hid hf
  have Hm := Lib.hid hm
  have H1 := Lib.hid h1
  have H2 := Lib.hid h2
  have H := Lib.hid (And.intro hn1 (And.intro hn2 (And.intro hs1 hs2)))
  clear hr hf h1 h2 hn1 hn2 hs1 hs2
  go_enter Tryz.func145, Tryz.ntmps145
  go_wp2_with fail
  refine (Hr.out _).mono ?_
  rintro _ _ ⟨rfl, rfl⟩
  go_wp2_with fail
  refine (Hf.out _).mono ?_
  rintro _ _ ⟨rfl, rfl⟩
  go_wp2_with fail
  refine (number_any n2 _ (by have := H.out; omega)).mono ?_
  rintro _ w1 ⟨rfl, hb1⟩
  unfold num8
  go_wp2_with fail
  refine (concat3 (S1 := S1) (S2 := fun _ => True) (S3 := S2) (w1.heap.size + 1) a1 (some ⟨w1.heap.size, 7, none⟩) a2 n1 1 n2 c1 1 c2 x1 (be 1 n2) x2 40 _ ?hblk ?h1 ?h2 ?h3 ?e1 ?e2 ?e3 ?hs).mono ?_
  case hblk => have h := blk_new (w1.alloc (.cells (num8 n2).toArray 184)) (.cells #[.slice a1 n1 c1, .slice (some ⟨w1.heap.size, 7, none⟩) 1 1, .slice a2 n2 c2] 40); simpa [num8] using h
  case h1 => exact ((H1.out.keep hb1).keep (box_below _ _)).keep (box_below _ _)
  case h3 => exact ((H2.out.keep hb1).keep (box_below _ _)).keep (box_below _ _)
  case h2 => exact tail_row _ w1.heap.size n2 1 184 (by have := H.out; omega) (by omega) (blk_alloc (blk_new w1 _) _)
  case e1 => exact H.out.1
  case e2 => exact be_length _ _
  case e3 => exact H.out.2.1
  case hs => have := H.out; omega
  rintro _ w4 ⟨v, rfl, hown, hb4⟩
  have hb3 : Below w.heap.size w w4 := by
    have k1 := hb1.alloc hb1.size (.cells (num8 n2).toArray 184)
    have k2 := k1.alloc k1.size (.cells #[.slice a1 n1 c1, .slice (some ⟨w1.heap.size, 7, none⟩) 1 1, .slice a2 n2 c2] 40)
    exact below_then k2 hb4
  have hle : w.heap.size ≤ w1.heap.size := hb1.size
  have hlen : n1 + 1 + n2 = (x1 ++ be 1 n2 ++ x2).length := by have := H.out; simp [be_length]; omega
  rw [hlen] at hown
  have hby := own_lower hown (B := w.heap.size) (by simp; omega)
  have Hby := Lib.hid hby
  have Hb3 := Lib.hid hb3
  clear hby hb3 hown hlen hb4
  go_wp2_with fail
  go_ret2
  exact ⟨_, rfl, Hby.out, Hb3.out⟩
set_option maxRecDepth 100000 in
set_option maxHeartbeats 2000000 in
theorem add_at2 {S1 S2 : Nat → Prop} (a1 a2 : Option Addr) (n1 n2 c1 c2 : Nat) (x1 x2 : List UInt8) (w : World)
    (h1 : Bytes S1 w (.slice a1 n1 c1) x1) (h2 : Bytes S2 w (.slice a2 n2 c2) x2) (hn1 : x1.length = n1) (hn2 : x2.length = n2) (hs1 : n1 ≤ 100000000) (hs2 : n2 < 65536) :
    Calls Tryz.prog 145 #[.slice a1 n1 c1, .int .i64 2, .slice a2 n2 c2] w fun e w' => ∃ v, e = .returned (.tuple #[v, .int .i64 0]) ∧ w'.ownsRow w.heap.size 5 1 v (x1 ++ be 2 n2 ++ x2).length (byteCells (x1 ++ be 2 n2 ++ x2)) ∧ Below w.heap.size w w' := by
  obtain ⟨m, hm⟩ : ∃ m : Int, m = n2 := ⟨_, rfl⟩
  have q1 : ¬ (m > 65536) := by omega
  have q2 : 0 ≤ m := by omega
  have q3 : m < 4294967296 := by omega
  have hr : ∀ W, Calls Tryz.prog 147 #[.int .i64 2] W fun e w' => e = .returned (.bool true) ∧ W = w' := fun W => (rightSize_any 2 W).mono (by rintro _ _ ⟨rfl, rfl⟩; exact ⟨rfl, rfl⟩)
  have hf : ∀ W, Calls Tryz.prog 148 #[.int .u64 n2, .int .i64 2] W fun e w' => e = .returned (.bool true) ∧ W = w' := by
    intro W
    refine (fits_any n2 2 W (by omega) (by decide) (by decide)).mono ?_
    rintro _ _ ⟨rfl, rfl⟩
    exact ⟨by simp [fitsB]; omega, rfl⟩
  have Hr := Lib.hid hr
  have Hf := Lib.hid hf
  have Hm := Lib.hid hm
  have H1 := Lib.hid h1
  have H2 := Lib.hid h2
  have H := Lib.hid (And.intro hn1 (And.intro hn2 (And.intro hs1 hs2)))
  clear hr hf h1 h2 hn1 hn2 hs1 hs2
  go_enter Tryz.func145, Tryz.ntmps145
  go_wp2_with fail
  refine (Hr.out _).mono ?_
  rintro _ _ ⟨rfl, rfl⟩
  go_wp2_with fail
  refine (Hf.out _).mono ?_
  rintro _ _ ⟨rfl, rfl⟩
  go_wp2_with fail
  refine (number_any n2 _ (by have := H.out; omega)).mono ?_
  rintro _ w1 ⟨rfl, hb1⟩
  unfold num8
  go_wp2_with fail
  refine (concat3 (S1 := S1) (S2 := fun _ => True) (S3 := S2) (w1.heap.size + 1) a1 (some ⟨w1.heap.size, 6, none⟩) a2 n1 2 n2 c1 2 c2 x1 (be 2 n2) x2 40 _ ?hblk ?h1 ?h2 ?h3 ?e1 ?e2 ?e3 ?hs).mono ?_
  case hblk => have h := blk_new (w1.alloc (.cells (num8 n2).toArray 184)) (.cells #[.slice a1 n1 c1, .slice (some ⟨w1.heap.size, 6, none⟩) 2 2, .slice a2 n2 c2] 40); simpa [num8] using h
  case h1 => exact ((H1.out.keep hb1).keep (box_below _ _)).keep (box_below _ _)
  case h3 => exact ((H2.out.keep hb1).keep (box_below _ _)).keep (box_below _ _)
  case h2 => exact tail_row _ w1.heap.size n2 2 184 (by have := H.out; omega) (by omega) (blk_alloc (blk_new w1 _) _)
  case e1 => exact H.out.1
  case e2 => exact be_length _ _
  case e3 => exact H.out.2.1
  case hs => have := H.out; omega
  rintro _ w4 ⟨v, rfl, hown, hb4⟩
  have hb3 : Below w.heap.size w w4 := by
    have k1 := hb1.alloc hb1.size (.cells (num8 n2).toArray 184)
    have k2 := k1.alloc k1.size (.cells #[.slice a1 n1 c1, .slice (some ⟨w1.heap.size, 6, none⟩) 2 2, .slice a2 n2 c2] 40)
    exact below_then k2 hb4
  have hle : w.heap.size ≤ w1.heap.size := hb1.size
  have hlen : n1 + 2 + n2 = (x1 ++ be 2 n2 ++ x2).length := by have := H.out; simp [be_length]; omega
  rw [hlen] at hown
  have hby := own_lower hown (B := w.heap.size) (by simp; omega)
  have Hby := Lib.hid hby
  have Hb3 := Lib.hid hb3
  clear hby hb3 hown hlen hb4
  go_wp2_with fail
  go_ret2
  exact ⟨_, rfl, Hby.out, Hb3.out⟩
set_option maxRecDepth 100000 in
set_option maxHeartbeats 2000000 in
theorem add_at4 {S1 S2 : Nat → Prop} (a1 a2 : Option Addr) (n1 n2 c1 c2 : Nat) (x1 x2 : List UInt8) (w : World)
    (h1 : Bytes S1 w (.slice a1 n1 c1) x1) (h2 : Bytes S2 w (.slice a2 n2 c2) x2) (hn1 : x1.length = n1) (hn2 : x2.length = n2) (hs1 : n1 ≤ 100000000) (hs2 : n2 ≤ 65536) :
    Calls Tryz.prog 145 #[.slice a1 n1 c1, .int .i64 4, .slice a2 n2 c2] w fun e w' => ∃ v, e = .returned (.tuple #[v, .int .i64 0]) ∧ w'.ownsRow w.heap.size 5 1 v (x1 ++ be 4 n2 ++ x2).length (byteCells (x1 ++ be 4 n2 ++ x2)) ∧ Below w.heap.size w w' := by
  obtain ⟨m, hm⟩ : ∃ m : Int, m = n2 := ⟨_, rfl⟩
  have q1 : ¬ (m > 65536) := by omega
  have q2 : 0 ≤ m := by omega
  have q3 : m < 4294967296 := by omega
  have hr : ∀ W, Calls Tryz.prog 147 #[.int .i64 4] W fun e w' => e = .returned (.bool true) ∧ W = w' := fun W => (rightSize_any 4 W).mono (by rintro _ _ ⟨rfl, rfl⟩; exact ⟨rfl, rfl⟩)
  have hf : ∀ W, Calls Tryz.prog 148 #[.int .u64 n2, .int .i64 4] W fun e w' => e = .returned (.bool true) ∧ W = w' := by
    intro W
    refine (fits_any n2 4 W (by omega) (by decide) (by decide)).mono ?_
    rintro _ _ ⟨rfl, rfl⟩
    exact ⟨by simp [fitsB]; omega, rfl⟩
  have Hr := Lib.hid hr
  have Hf := Lib.hid hf
  have Hm := Lib.hid hm
  have H1 := Lib.hid h1
  have H2 := Lib.hid h2
  have H := Lib.hid (And.intro hn1 (And.intro hn2 (And.intro hs1 hs2)))
  clear hr hf h1 h2 hn1 hn2 hs1 hs2
  go_enter Tryz.func145, Tryz.ntmps145
  go_wp2_with fail
  refine (Hr.out _).mono ?_
  rintro _ _ ⟨rfl, rfl⟩
  go_wp2_with fail
  refine (Hf.out _).mono ?_
  rintro _ _ ⟨rfl, rfl⟩
  go_wp2_with fail
  refine (number_any n2 _ (by have := H.out; omega)).mono ?_
  rintro _ w1 ⟨rfl, hb1⟩
  unfold num8
  go_wp2_with fail
  refine (concat3 (S1 := S1) (S2 := fun _ => True) (S3 := S2) (w1.heap.size + 1) a1 (some ⟨w1.heap.size, 4, none⟩) a2 n1 4 n2 c1 4 c2 x1 (be 4 n2) x2 40 _ ?hblk ?h1 ?h2 ?h3 ?e1 ?e2 ?e3 ?hs).mono ?_
  case hblk => have h := blk_new (w1.alloc (.cells (num8 n2).toArray 184)) (.cells #[.slice a1 n1 c1, .slice (some ⟨w1.heap.size, 4, none⟩) 4 4, .slice a2 n2 c2] 40); simpa [num8] using h
  case h1 => exact ((H1.out.keep hb1).keep (box_below _ _)).keep (box_below _ _)
  case h3 => exact ((H2.out.keep hb1).keep (box_below _ _)).keep (box_below _ _)
  case h2 => exact tail_row _ w1.heap.size n2 4 184 (by have := H.out; omega) (by omega) (blk_alloc (blk_new w1 _) _)
  case e1 => exact H.out.1
  case e2 => exact be_length _ _
  case e3 => exact H.out.2.1
  case hs => have := H.out; omega
  rintro _ w4 ⟨v, rfl, hown, hb4⟩
  have hb3 : Below w.heap.size w w4 := by
    have k1 := hb1.alloc hb1.size (.cells (num8 n2).toArray 184)
    have k2 := k1.alloc k1.size (.cells #[.slice a1 n1 c1, .slice (some ⟨w1.heap.size, 4, none⟩) 4 4, .slice a2 n2 c2] 40)
    exact below_then k2 hb4
  have hle : w.heap.size ≤ w1.heap.size := hb1.size
  have hlen : n1 + 4 + n2 = (x1 ++ be 4 n2 ++ x2).length := by have := H.out; simp [be_length]; omega
  rw [hlen] at hown
  have hby := own_lower hown (B := w.heap.size) (by simp; omega)
  have Hby := Lib.hid hby
  have Hb3 := Lib.hid hb3
  clear hby hb3 hown hlen hb4
  go_wp2_with fail
  go_ret2
  exact ⟨_, rfl, Hby.out, Hb3.out⟩
end Go.Proofs.YtahagecdebadfaaGreat

namespace Go.Proofs.YtahagecdebadfaaGreat
open Go.RowKit

set_option maxRecDepth 100000 in
set_option maxHeartbeats 1000000 in
theorem wend_ok (B g : Nat) (xs : List UInt8) (w : World) (h : WrAt 176 B w g xs 0) (hx : xs.length ≤ 1000000000) :
    Calls Tryz.prog 123 #[.pointer (some ⟨g, 0, none⟩)] w fun e w' => ∃ v, e = .returned (.tuple #[v, .int .i64 0]) ∧ Bytes (w.heap.size ≤ ·) w' v xs ∧ Below w.heap.size w w' := by
  obtain ⟨hB, v, hblk, hown⟩ := h
  obtain ⟨c0, c1, f0, f1⟩ := cells2 hblk
  have hby : Bytes (B ≤ ·) w v xs := RowAt.of_own hown
  obtain ⟨A, c, rfl⟩ := hby.slice
  have Hby := Lib.hid hby
  clear hown hby hblk
  go_enter Tryz.func123, Tryz.ntmps123
  go_wp2_with fail
  refine (clone_bytes _ _ xs Hby.out (by omega)).mono ?_
  rintro e w1 ⟨v', rfl, hown, hb⟩
  have hr := RowAt.of_own hown
  obtain ⟨A', c', rfl⟩ := hr.slice
  have Hr := Lib.hid hr
  clear hr hown
  go_wp2_with fail
  go_ret2
  exact ⟨_, rfl, Hr.out, hb⟩

/-- An error stands. -/
theorem wend_no (B g : Nat) (xs : List UInt8) (er : Int) (w : World) (h : WrAt 176 B w g xs er) (he : er ≠ 0) :
    Calls Tryz.prog 123 #[.pointer (some ⟨g, 0, none⟩)] w fun e w' => e = .returned (.tuple #[.slice none 0 0, .int .i64 er]) ∧ Below w.heap.size w w' := by
  obtain ⟨hB, v, hblk, hown⟩ := h
  obtain ⟨c0, c1, f0, f1⟩ := cells2 hblk
  have heb : (er == 0) = false := by simpa using he
  have heb2 : (er != 0) = true := by simpa using he
  clear hown hblk he
  go_enter Tryz.func123, Tryz.ntmps123
  go_wp2_with fail
  go_quiet (fail)
  go_wp2_with fail
  go_ret2
  exact ⟨rfl, below_drewN (Below.refl _ _) _⟩
end Go.Proofs.YtahagecdebadfaaGreat

namespace Go.Proofs.YtahagecdebadfaaGreat
open Go.RowKit

/-- A reader in block g: its bytes lie in S, where its own block is not; and its error. -/
def RdAt (T : TypeId) (S : Nat → Prop) (w : World) (g : Nat) (xs : List UInt8) (er : Int) : Prop :=
  ¬ S g ∧ ∃ v, w.heap[g]? = some (.cells #[v, .int .i64 er] T (0, 0)) ∧ Bytes S w v xs

theorem grown_refl (w : World) (r : Option Nat) : w.grownBy w r := ⟨rfl, rfl, rfl, Nat.le_refl _, fun _ _ _ => rfl⟩
theorem grown_set {w w' : World} {g : Nat} (h : w.grownBy w' (some g)) (k : Nat) (u : Value) : w.grownBy (w'.setCell ⟨g, k, none⟩ u) (some g) :=
  ⟨h.os, h.tape, h.output, by simp [World.setCell]; exact h.size, fun i hi hne => (Below.heap_setCell w' ⟨g, k, none⟩ u i (fun e => hne (by rw [e]))).trans (h.block i hi hne)⟩
theorem grown_below {w w1 w2 : World} {r : Option Nat} (h : w.grownBy w1 r) (k : Below w1.heap.size w1 w2) : w.grownBy w2 r :=
  ⟨k.os.trans h.os, k.tape.trans h.tape, k.output.trans h.output, Nat.le_trans h.size k.size, fun i hi hne => (k.block i (Nat.lt_of_lt_of_le hi h.size)).trans (h.block i hi hne)⟩
theorem grown_of_below {w w1 : World} (k : Below w.heap.size w w1) (r : Option Nat) : w.grownBy w1 r := grown_below (grown_refl w r) k
theorem grown_trans {w w1 w2 : World} {r : Option Nat} (h : w.grownBy w1 r) (k : w1.grownBy w2 r) : w.grownBy w2 r :=
  ⟨k.os.trans h.os, k.tape.trans h.tape, k.output.trans h.output, Nat.le_trans h.size k.size, fun i hi hne => (k.block i (Nat.lt_of_lt_of_le hi h.size) hne).trans (h.block i hi hne)⟩
theorem same_grownG {w w' : World} {g : Nat} (h : w.grownBy w' (some g)) {S : Nat → Prop} (hS : ¬ S g) : Same S w w' :=
  ⟨h.size, fun b hb hlt => h.block b hlt (fun e => by injection e with e; exact hS (e ▸ hb))⟩

theorem Bytes.drop {S : Nat → Prop} {w : World} {b o n c : Nat} {xs : List UInt8} (h : Bytes S w (.slice (some ⟨b, o, none⟩) n c) xs) (k c' : Nat) (hk : k ≤ n) (hc : n - k ≤ c') (hc' : c' ≤ maxLen) :
    Bytes S w (.slice (some ⟨b, o + k, none⟩) (n - k) c') (xs.drop k) := by
  have hn : n = xs.length := by obtain ⟨A, c1, e⟩ := h.slice; injection e
  subst hn
  have := RowAt.cut (sz := 1) h k (xs.length - k) c' (by omega) hc hc'
  have e : (xs.drop k).length = xs.length - k := by simp
  have e2 : ((byteCells xs).drop (k * 1)).take ((xs.length - k) * 1) = byteCells (xs.drop k) := by
    rw [Nat.mul_one, Nat.mul_one, List.take_of_length_le (by simp [byteCells_length])]
    simp [byteCells]
  rw [e2, Nat.mul_one] at this
  unfold Bytes
  rw [e]
  exact this
theorem Bytes.mid {S : Nat → Prop} {w : World} {b o n c : Nat} {xs : List UInt8} (h : Bytes S w (.slice (some ⟨b, o, none⟩) n c) xs) (lo k c' : Nat) (hk : lo + k ≤ n) (hc : k ≤ c') (hc' : c' ≤ maxLen) :
    Bytes S w (.slice (some ⟨b, o + lo, none⟩) k c') ((xs.drop lo).take k) := by
  have hn : n = xs.length := by obtain ⟨A, c1, e⟩ := h.slice; injection e
  subst hn
  have := RowAt.cut (sz := 1) h lo k c' hk hc hc'
  have e : ((xs.drop lo).take k).length = k := by simp; omega
  have e2 : ((byteCells xs).drop (lo * 1)).take (k * 1) = byteCells ((xs.drop lo).take k) := by
    rw [Nat.mul_one, Nat.mul_one]
    simp [byteCells]
  rw [e2, Nat.mul_one] at this
  unfold Bytes
  rw [e]
  exact this
theorem Bytes.none {S : Nat → Prop} {w : World} {a : Addr} {n c : Nat} {xs : List UInt8} (h : xs.length = 0) (hn : n = 0) : Bytes S w (.slice (some a) n c) xs := by
  subst hn
  exact ⟨by simp [byteCells_length], .inl ⟨h, .inr ⟨a, c, rfl⟩⟩⟩

/-- What a piece behind its length is: its bytes, where it ends, what is wrong. -/
def cutOf (size : Nat) (xs : List UInt8) : List UInt8 × Nat × Int :=
  if xs.length < size then ([], 0, 10)
  else if beVal (xs.take size) > 65536 then ([], 0, 3)
  else if xs.length - size < beVal (xs.take size) then ([], 0, 10)
  else ((xs.drop size).take (beVal (xs.take size)), size + beVal (xs.take size), 0)

theorem ret3 {u : Value} {a b c : Int} (h : a = b) : Ending.returned (.tuple #[u, .int .i64 a, .int .i64 c]) = Ending.returned (.tuple #[u, .int .i64 b, .int .i64 c]) := by rw [h]
theorem rightSize_yes (size : Nat) (hs : size = 1 ∨ size = 2 ∨ size = 4) (w : World) :
    Calls Tryz.prog 147 #[.int .i64 size] w fun e w' => e = .returned (.bool true) ∧ w = w' := by
  refine (rightSize_any size w).mono ?_
  rintro _ _ ⟨rfl, rfl⟩
  refine ⟨?_, rfl⟩
  rcases hs with rfl | rfl | rfl <;> rfl

theorem grown_cell {w w' : World} {r : Option Nat} (h : w.grownBy w' r) {p : Addr} {v : Value} (hr : r ≠ some p.block) (hc : w.cell? p = some v) : w'.cell? p = some v := by
  have := World.cell?_of_block (w := w) (h.block p.block (block_lt hc) (fun e => hr e.symm))
  rw [this, hc]

theorem cutOf_le (size : Nat) (xs : List UInt8) (he : (cutOf size xs).2.2 = 0) : (cutOf size xs).2.1 ≤ xs.length := by
  unfold cutOf at *
  by_cases h1 : xs.length < size
  · rw [if_pos h1] at he; simp at he
  · rw [if_neg h1] at he ⊢
    by_cases h2 : beVal (xs.take size) > 65536
    · rw [if_pos h2] at he; simp at he
    · rw [if_neg h2] at he ⊢
      by_cases h3 : xs.length - size < beVal (xs.take size)
      · rw [if_pos h3] at he; simp at he
      · rw [if_neg h3]
        show size + _ ≤ _
        omega
theorem cutOf_len (size : Nat) (xs : List UInt8) : (cutOf size xs).1.length ≤ 65536 := by
  unfold cutOf
  by_cases h1 : xs.length < size
  · rw [if_pos h1]; simp
  · rw [if_neg h1]
    by_cases h2 : beVal (xs.take size) > 65536
    · rw [if_pos h2]; simp
    · rw [if_neg h2]
      by_cases h3 : xs.length - size < beVal (xs.take size)
      · rw [if_pos h3]; simp
      · rw [if_neg h3]
        simp
        omega
theorem own_far {w : World} {B size n g k : Nat} {e : TypeId} {v : Value} {xs : List Value} (h : w.ownsRow B e size v n xs) (hg : g < B) (u : Value) : (w.setCell ⟨g, k, none⟩ u).ownsRow B e size v n xs := by
  refine h.kept (row := some g) ⟨rfl, rfl, rfl, by simp [World.setCell], fun i hi hne => Below.heap_setCell w ⟨g, k, none⟩ u i (fun e => hne (by rw [e]))⟩ (.inr fun e => ?_)
  have := own_blk_ge h _ e
  omega

def endOf (xs : List UInt8) (er : Int) : Int := if er = 0 then (if xs.length = 0 then 0 else 11) else er
end Go.Proofs.YtahagecdebadfaaGreat

namespace Go.Proofs.YtahagecdebadfaaGreat
open Go.RowKit

theorem wbytes_of {S1 : Nat → Prop} (S : Nat → Prop) (B g : Nat) (xs p : List UInt8) (size : Int) (y : Value) (w : World) (h : WrS 176 S B w g xs 0) (hS : ∀ b, S b → b < w.heap.size) (hp : Bytes S1 w y p) (ys : List UInt8)
    (hadd : ∀ v, Bytes (B ≤ ·) w v xs → Calls Tryz.prog 145 #[v, .int .i64 size, y] w fun e w' => ∃ u, e = .returned (.tuple #[u, .int .i64 0]) ∧ w'.ownsRow w.heap.size 5 1 u ys.length (byteCells ys) ∧ Below w.heap.size w w') :
    Calls Tryz.prog 137 #[.pointer (some ⟨g, 0, none⟩), .int .i64 size, y] w fun e w' => (∃ v, e = .returned v) ∧ WrS 176 S B w' g ys 0 ∧ Same S w w' ∧ Below B w w' := by
  obtain ⟨hB, hSg, v, hblk, hown, hvS⟩ := h
  have HS := Lib.hid hS
  clear hS hvS
  obtain ⟨c0, c1, f0, f1⟩ := cells2 hblk
  have hgs := block_lt c0
  have Hblk := Lib.hid hblk
  have hr := RowAt.of_own hown
  obtain ⟨A, c, rfl⟩ := hr.slice
  have Hadd := Lib.hid (hadd _ hr)
  obtain ⟨A2, c2, rfl⟩ := hp.slice
  clear hblk hown hr hadd hp
  go_enter Tryz.func137, Tryz.ntmps137
  go_wp2_with fail
  refine Hadd.out.mono ?_
  rintro _ w1 ⟨u, rfl, hown1, hb1⟩
  have hblk1 := blk_keep hb1 Hblk.out
  obtain ⟨d0, d1, e0, e1⟩ := cells2 hblk1
  obtain ⟨A3, c3, rfl⟩ := (RowAt.of_own hown1).slice
  have Hblk1 := Lib.hid hblk1
  have Hown1 := Lib.hid hown1
  clear hblk1 hown1
  go_wp2_with fail
  go_end0
  refine ⟨⟨_, rfl⟩, ⟨hB, hSg, _, blk_put Hblk1.out _, own_lower (own_far Hown1.out hgs _) (by omega), fun k hk hs => ?_⟩, (Same.of_below' hb1 S).setCell hSg _, (hb1.mono (by omega)).setCell hB _⟩
  have := own_blk_ge Hown1.out k hk
  have := HS.out k hs
  omega

theorem wbytes_at2 {S1 : Nat → Prop} (S : Nat → Prop) (B g : Nat) (xs p : List UInt8) (y : Value) (w : World) (h : WrS 176 S B w g xs 0) (hS : ∀ b, S b → b < w.heap.size) (hp : Bytes S1 w y p) (hx : xs.length ≤ 100000000) (hl : p.length < 65536) :
    Calls Tryz.prog 137 #[.pointer (some ⟨g, 0, none⟩), .int .i64 2, y] w fun e w' => (∃ v, e = .returned v) ∧ WrS 176 S B w' g (xs ++ be 2 p.length ++ p) 0 ∧ Same S w w' ∧ Below B w w' := by
  refine wbytes_of S B g xs p 2 y w h hS hp _ fun v hv => ?_
  obtain ⟨A, c, rfl⟩ := hv.slice
  obtain ⟨A2, c2, rfl⟩ := hp.slice
  exact add_at2 A A2 xs.length p.length c c2 xs p w hv hp rfl rfl hx hl
theorem wbytes_at4 {S1 : Nat → Prop} (S : Nat → Prop) (B g : Nat) (xs p : List UInt8) (y : Value) (w : World) (h : WrS 176 S B w g xs 0) (hS : ∀ b, S b → b < w.heap.size) (hp : Bytes S1 w y p) (hx : xs.length ≤ 100000000) (hl : p.length ≤ 65536) :
    Calls Tryz.prog 137 #[.pointer (some ⟨g, 0, none⟩), .int .i64 4, y] w fun e w' => (∃ v, e = .returned v) ∧ WrS 176 S B w' g (xs ++ be 4 p.length ++ p) 0 ∧ Same S w w' ∧ Below B w w' := by
  refine wbytes_of S B g xs p 4 y w h hS hp _ fun v hv => ?_
  obtain ⟨A, c, rfl⟩ := hv.slice
  obtain ⟨A2, c2, rfl⟩ := hp.slice
  exact add_at4 A A2 xs.length p.length c c2 xs p w hv hp rfl rfl hx hl
end Go.Proofs.YtahagecdebadfaaGreat

namespace Go.Proofs.YtahagecdebadfaaGreat
open Go.RowKit

/-- A store into a row of the call's own. -/
theorem own_store {w : World} {base g n cap i : Nat} {e : TypeId} {xs : List Value} (h : w.ownsRow base e 1 (.slice (some ⟨g, 0, none⟩) n cap) n xs) (_hi : i < n) (u : Value) :
    (w.setCell ⟨g, i, none⟩ u).ownsRow base e 1 (.slice (some ⟨g, 0, none⟩) n cap) n (xs.set i u) := by
  obtain ⟨h1, h2⟩ := h
  refine ⟨by simpa using h1, ?_⟩
  rcases h2 with ⟨h2, h3⟩ | ⟨g', cap', cur, hv, hb, hh, hn, hc, hs, ht⟩
  · cases h2
  · injection hv with hv1 hv2 hv3
    injection hv1 with hv1
    injection hv1 with hv1
    subst hv1 hv3
    refine .inr ⟨g, cap, cur.setIfInBounds i u, rfl, hb, ?_, hn, hc, by simpa using hs, ?_⟩
    · simp [World.setCell, Array.getElem?_modify, hh]
    · rw [Array.toList_setIfInBounds, List.take_set, ht]
theorem own_cell {w : World} {base g n cap i : Nat} {e : TypeId} {xs : List Value} {u : Value} (h : w.ownsRow base e 1 (.slice (some ⟨g, 0, none⟩) n cap) n xs) (hu : xs[i]? = some u) :
    w.cell? ⟨g, i, none⟩ = some u ∧ w.frozen? ⟨g, i, none⟩ = false := by
  obtain ⟨h1, h2⟩ := h
  rcases h2 with ⟨h2, h3⟩ | ⟨g', cap', cur, hv, hb, hh, hn, hc, hs, ht⟩
  · cases h2
  · injection hv with hv1 hv2 hv3
    injection hv1 with hv1
    injection hv1 with hv1
    subst hv1 hv3
    have hi : i < n * 1 := by rw [← h1]; exact (List.getElem?_eq_some_iff.1 hu).1
    rw [← ht, List.getElem?_take, if_pos hi] at hu
    constructor
    · simp [World.cell?, hh]
      simpa using hu
    · simp [World.frozen?, hh]

theorem cell_one (w : World) (x : Value) (t : TypeId) : ∀ j u, ([x] : List Value)[j]? = some u → (w.alloc (.cells #[x] t)).cell? ((⟨w.heap.size, 0, none⟩ : Addr).add j) = some u := by
  intro j u hu
  rw [add_plain, Nat.zero_add, cell_of_row _ _ _ _ _ _ (blk_new w _)]
  simpa using hu
theorem set2 {α : Type} (l : List α) (h : l.length = 2) (a b : α) : (l.set 0 a).set 1 b = [a, b] := by
  match l, h with
  | [_, _], _ => rfl
theorem set4 {α : Type} (l : List α) (h : l.length = 4) (a b c d : α) : (((l.set 0 a).set 1 b).set 2 c).set 3 d = [a, b, c, d] := by
  match l, h with
  | [_, _, _, _], _ => rfl

end Go.Proofs.YtahagecdebadfaaGreat

namespace Go.Proofs.YtahagecdebadfaaGreat
open Go.RowKit

theorem bytes_zeros (w : World) (n : Nat) (h : n ≤ maxLen) : Bytes (w.heap.size ≤ ·) (w.alloc (.cells (byteCells (List.replicate n 0)).toArray 5)) (.slice (some ⟨w.heap.size, 0, none⟩) n n) (List.replicate n 0) := by
  refine ⟨by simp [byteCells_length], .inr ⟨w.heap.size, 0, n, by simp, by simp, h, Nat.le_refl _, by simp, fun i u hu => ?_⟩⟩
  rw [cell_of_row _ _ _ _ _ _ (blk_new w _)]
  simpa using hu

end Go.Proofs.YtahagecdebadfaaGreat

namespace Go.Proofs.YtahagecdebadfaaGreat
open Go.RowKit

/-- A byte more in a writer's row. -/
theorem wr_more {T : TypeId} {S : Nat → Prop} {B g : Nat} {w w1 : World} {v v' x : Value} {xs : List UInt8} {b : UInt8} (hx : x = .int .u8 b.toNat) (hT : 5 ≠ T) (hB : B ≤ g) (hSg : ¬ S g) (hS : ∀ b, S b → b < w.heap.size) (hvS : ∀ k, v.ownBlock = some k → ¬ S k) (hblk : w.heap[g]? = some (.cells #[v, .int .i64 0] T (0, 0)))
    (hown : w.ownsRow B 5 1 v xs.length (byteCells xs)) (hown1 : w1.ownsRow B 5 1 v' (xs.length + 1) (byteCells xs ++ [x])) (hg : (w.alloc (.cells #[x] 5)).grownBy w1 v.ownBlock) (hat : v'.ownBlock = v.ownBlock ∨ v'.ownBlock = some (w.heap.size + 1)) :
    w1.heap[g]? = some (.cells #[v, .int .i64 0] T (0, 0)) ∧ WrS T S B (w1.setCell ⟨g, 0, none⟩ v') g (xs ++ [b]) 0 ∧ Same S w (w1.setCell ⟨g, 0, none⟩ v') ∧ Below B w (w1.setCell ⟨g, 0, none⟩ v') := by
  subst hx
  have hgs := (Array.getElem?_eq_some_iff.1 hblk).1
  have hb0 : Below B w (w.alloc (.cells #[.int .u8 b.toNat] 5)) := (Below.refl B w).alloc (by omega) _
  have h1 := wr_grown (blk_alloc hblk _) hT (own_keep hown (box_below w (.cells #[.int .u8 b.toNat] 5))) hg
  refine ⟨h1, ⟨hB, hSg, v', blk_put h1 v', ?_, fun k hk hs => ?_⟩, ?_, ?_⟩
  · have e : (xs ++ [b]).length = xs.length + 1 := by simp
    rw [e, byteCells_append]
    exact own_put hown1 h1 hT v'
  · have hlt := hS k hs
    rcases hat with h | h
    · exact hvS k (h ▸ hk) hs
    · rw [hk] at h
      injection h with h
      omega
  · exact ((Same.of_below' (box_below w _) S).trans (same_grownO hg hvS)).setCell hSg _
  · exact (hb0.grown hg (by simp; omega) (own_blk_ge hown)).setCell hB _
theorem byte_cell (n : Nat) (i : Nat) : Value.int .u8 ((n : Int) / (256 ^ i : Nat) % 256) = .int .u8 (byteOf n i).toNat := by rw [byteOf_nat]

end Go.Proofs.YtahagecdebadfaaGreat

namespace Go.Proofs.YtahagecdebadfaaGreat
open Go.RowKit

theorem sizeU8 (w : World) : (Go.sizeOf 5).run Tryz.prog w = .ok 1 w := by
  obtain ⟨i0, hi, hz0, hz1, hz2⟩ := info_parts infoU8
  simp [Go.sizeOf, typeInfo, hi, hz1]
theorem elemBytes : Tryz.prog.elem 40 = 5 := by kernel_rfl

theorem bytes_sliced {S : Nat → Prop} {w : World} {a : Option Addr} {n c : Nat} {xs : List UInt8} (h : Bytes S w (.slice a n c) xs) (l k m : Nat) (h1 : l ≤ k) (h2 : k ≤ n) (h3 : k ≤ m) (h4 : m ≤ c) :
    Bytes S w (sliced a l k m 1) ((xs.take k).drop l) := by
  have hn : n = xs.length := by obtain ⟨A, c1, e⟩ := h.slice; injection e
  subst hn
  have hl : ((xs.take k).drop l).length = k - l := by simp; omega
  unfold sliced
  rcases h.2 with ⟨h0, hv | ⟨a', c', hv⟩⟩ | ⟨b, o, c', hv, hn, hc, hS, hb, hcell⟩
  · injection hv with e1 e2 e3
    subst e1 e3
    have hm : m = 0 := by omega
    subst hm
    have e0 : l = 0 := by omega
    have e5 : k = 0 := by omega
    subst e0 e5
    exact ⟨by simp [byteCells], .inl ⟨by simp, .inl (by simp)⟩⟩
  · injection hv with e1 e2 e3
    subst e1
    refine ⟨by simp [byteCells_length], .inl ⟨by omega, .inr ⟨if m = l then a' else a'.add (l * 1), m - l, ?_⟩⟩⟩
    have : k - l = 0 := by omega
    rw [this]
    split <;> rfl
  · injection hv with e1 e2 e3
    subst e1 e3
    by_cases hkl : k = l
    · subst hkl
      refine ⟨by simp [byteCells_length], .inl ⟨by omega, .inr ⟨if m = k then ⟨b, o, none⟩ else (⟨b, o, none⟩ : Addr).add (k * 1), m - k, ?_⟩⟩⟩
      rw [Nat.sub_self]
      split <;> rfl
    · have hml : m ≠ l := by omega
      rw [if_neg hml]
      refine ⟨by simp [byteCells_length], .inr ⟨b, o + l, m - l, ?_, by omega, by unfold maxLen at *; omega, hS, hb, fun i u hu => ?_⟩⟩
      · rw [hl]
        simp [add_plain]
      · have e : byteCells ((xs.take k).drop l) = ((byteCells xs).take k).drop l := by simp [byteCells]
        rw [e, List.getElem?_drop, List.getElem?_take] at hu
        split at hu
        · have := hcell _ _ hu
          rwa [← Nat.add_assoc] at this
        · cases hu

/-- A piece from l to k. -/
theorem bytes_lh {S : Nat → Prop} {w : World} {v : Value} {xs : List UInt8} (h : Bytes S w v xs) (l k : Int) (h0 : 0 ≤ l) (h1 : l ≤ k) (h2 : k ≤ xs.length) :
    ∃ a n c, Bytes S w (.slice a n c) ((xs.take k.toNat).drop l.toNat) ∧ n = k.toNat - l.toNat ∧ ∀ w0 kl kh, (Instr.sliceAt 40 v (some (.int kl l)) (some (.int kh k)) none).run Tryz.prog w0 = .ok (.slice a n c) w0 := by
  obtain ⟨A, c, rfl⟩ := h.slice
  have hc : xs.length ≤ c := by
    rcases h.2 with ⟨h0, hv | ⟨a', c', hv⟩⟩ | ⟨b, o, c', hv, hn, hc, hS, hb, hcell⟩
    · omega
    · omega
    · injection hv with e1 e2 e3
      omega
  refine ⟨_, _, _, bytes_sliced h l.toNat k.toNat c (by omega) (by omega) (by omega) (by omega), rfl, fun w0 kl kh => ?_⟩
  have ht : Tryz.prog.underlying 40 = some (.slice (Tryz.prog.elem 40)) := by rw [elemBytes]; exact Tryz.underlying40
  rw [run_sliceAt_slice _ _ _ _ _ _ ht, run_slice_lh _ _ _ _ _ ht kl kh l k h0 h1 (by omega), elemBytes, sizeU8]
  rfl
/-- A piece from l on. -/
theorem bytes_l {S : Nat → Prop} {w : World} {v : Value} {xs : List UInt8} (h : Bytes S w v xs) (l : Int) (h0 : 0 ≤ l) (h2 : l ≤ xs.length) :
    ∃ a n c, Bytes S w (.slice a n c) (xs.drop l.toNat) ∧ n = xs.length - l.toNat ∧ ∀ w0 kl, (Instr.sliceAt 40 v (some (.int kl l)) none none).run Tryz.prog w0 = .ok (.slice a n c) w0 := by
  obtain ⟨A, c, rfl⟩ := h.slice
  have hc : xs.length ≤ c := by
    rcases h.2 with ⟨h0, hv | ⟨a', c', hv⟩⟩ | ⟨b, o, c', hv, hn, hc, hS, hb, hcell⟩
    · omega
    · omega
    · injection hv with e1 e2 e3
      omega
  have hs := bytes_sliced h l.toNat xs.length c (by omega) (by omega) (by omega) (by omega)
  rw [List.take_length] at hs
  refine ⟨_, _, _, hs, rfl, fun w0 kl => ?_⟩
  have ht : Tryz.prog.underlying 40 = some (.slice (Tryz.prog.elem 40)) := by rw [elemBytes]; exact Tryz.underlying40
  rw [run_sliceAt_slice _ _ _ _ _ _ ht, run_slice_l _ _ _ _ _ ht kl l h0 h2, elemBytes, sizeU8]
  rfl
end Go.Proofs.YtahagecdebadfaaGreat

/- Entries as bytes: the readers' side. No statement is proved here. -/
import Derived.Test.YtoaoldhajpbenaaPckB
namespace Go.Proofs.Ytoaoldhajpbenaa
open Go.RowKit

/-- What a reader has: its bytes, its error. A number, bytes, an entry, and what is left. -/
def rdNum (size : Nat) (st : List UInt8 × Int) : Int × (List UInt8 × Int) :=
  if st.2 ≠ 0 then (0, st) else if st.1.length < size then (0, (st.1, 10)) else ((beVal (st.1.take size) : Nat), (st.1.drop size, 0))
def rdBytes (size : Nat) (st : List UInt8 × Int) : List UInt8 × (List UInt8 × Int) :=
  if st.2 ≠ 0 then ([], st) else if (cutOf size st.1).2.2 ≠ 0 then ([], (st.1, (cutOf size st.1).2.2)) else ((cutOf size st.1).1, (st.1.drop (cutOf size st.1).2.1, 0))
def rdEnt (st : List UInt8 × Int) : Ent × (List UInt8 × Int) :=
  (⟨(rdNum 1 st).1 - 64, (rdNum 6 (rdNum 1 st).2).1, (rdBytes 2 (rdNum 6 (rdNum 1 st).2).2).1⟩, (rdBytes 2 (rdNum 6 (rdNum 1 st).2).2).2)

theorem rdNum_len (size : Nat) (st : List UInt8 × Int) : (rdNum size st).2.1.length ≤ st.1.length := by
  unfold rdNum
  by_cases h : st.2 ≠ 0
  · rw [if_pos h]; exact Nat.le_refl _
  · rw [if_neg h]
    by_cases h2 : st.1.length < size
    · rw [if_pos h2]; exact Nat.le_refl _
    · rw [if_neg h2]; simp
theorem rdNum_lt (size : Nat) (st : List UInt8 × Int) : 0 ≤ (rdNum size st).1 ∧ (rdNum size st).1 < ((256 ^ size : Nat) : Int) := by
  have hp : 0 < 256 ^ size := Nat.pow_pos (by omega)
  unfold rdNum
  by_cases h : st.2 ≠ 0
  · rw [if_pos h]; exact ⟨Int.le_refl _, by show (0 : Int) < _; omega⟩
  · rw [if_neg h]
    by_cases h2 : st.1.length < size
    · rw [if_pos h2]; exact ⟨Int.le_refl _, by show (0 : Int) < _; omega⟩
    · rw [if_neg h2]
      have := beVal_lt (st.1.take size)
      rw [List.length_take, Nat.min_eq_left (by omega)] at this
      exact ⟨by show (0 : Int) ≤ ((beVal (st.1.take size) : Nat) : Int); omega, by show ((beVal (st.1.take size) : Nat) : Int) < _; omega⟩
theorem rdBytes_len (size : Nat) (st : List UInt8 × Int) : (rdBytes size st).2.1.length ≤ st.1.length := by
  unfold rdBytes
  by_cases h : st.2 ≠ 0
  · rw [if_pos h]; exact Nat.le_refl _
  · rw [if_neg h]
    by_cases h2 : (cutOf size st.1).2.2 ≠ 0
    · rw [if_pos h2]; exact Nat.le_refl _
    · rw [if_neg h2]; simp

theorem rnum_any (S : Nat → Prop) (g : Nat) (xs : List UInt8) (er : Int) (size : Nat) (w : World) (h : RdAt 143 S w g xs er) (h1 : 1 ≤ size) (h8 : size ≤ 7) :
    Calls Try.prog 74 #[.pointer (some ⟨g, 0, none⟩), .int .i64 size] w fun e w' => e = .returned (.int .i64 (rdNum size (xs, er)).1) ∧ RdAt 143 S w' g (rdNum size (xs, er)).2.1 (rdNum size (xs, er)).2.2 ∧ w.grownBy w' (some g) := by
  unfold rdNum
  by_cases he : er ≠ 0
  · rw [if_pos he]
    exact (rnum_err S g xs er size w h he).mono (by rintro _ _ ⟨rfl, rfl⟩; exact ⟨rfl, h, grown_refl _ _⟩)
  · rw [if_neg he]
    obtain rfl : er = 0 := by omega
    by_cases h2 : xs.length < size
    · rw [if_pos h2]; exact rnum_short S g xs size w h h1 (by omega) h2
    · rw [if_neg h2]; exact rnum_ok S g xs size w h h1 h8 (by omega)
theorem rrnum_any (S : Nat → Prop) (g : Nat) (xs : List UInt8) (er : Int) (size : Nat) (w : World) (h : RdAt 133 S w g xs er) (h1 : 1 ≤ size) (h8 : size ≤ 7) :
    Calls Try.prog 78 #[.pointer (some ⟨g, 0, none⟩), .int .i64 size] w fun e w' => e = .returned (.int .i64 (rdNum size (xs, er)).1) ∧ RdAt 133 S w' g (rdNum size (xs, er)).2.1 (rdNum size (xs, er)).2.2 ∧ w.grownBy w' (some g) := by
  unfold rdNum
  by_cases he : er ≠ 0
  · rw [if_pos he]
    exact (rrnum_err S g xs er size w h he).mono (by rintro _ _ ⟨rfl, rfl⟩; exact ⟨rfl, h, grown_refl _ _⟩)
  · rw [if_neg he]
    obtain rfl : er = 0 := by omega
    by_cases h2 : xs.length < size
    · rw [if_pos h2]; exact rrnum_short S g xs size w h h1 (by omega) h2
    · rw [if_neg h2]; exact rrnum_ok S g xs size w h h1 h8 (by omega)
theorem rbytes_any (S : Nat → Prop) (g : Nat) (xs : List UInt8) (er : Int) (size : Nat) (w : World) (h : RdAt 143 S w g xs er) (hs : size = 1 ∨ size = 2 ∨ size = 4) :
    Calls Try.prog 76 #[.pointer (some ⟨g, 0, none⟩), .int .i64 size] w fun e w' => ∃ u, e = .returned u ∧ w'.ownsRow w.heap.size 5 1 u (rdBytes size (xs, er)).1.length (byteCells (rdBytes size (xs, er)).1) ∧ RdAt 143 S w' g (rdBytes size (xs, er)).2.1 (rdBytes size (xs, er)).2.2 ∧ w.grownBy w' (some g) := by
  unfold rdBytes
  by_cases he : er ≠ 0
  · rw [if_pos he]
    exact (rbytes_err S g xs er size w h he).mono (by rintro _ _ ⟨rfl, rfl⟩; exact ⟨_, rfl, World.ownsRow_nil _ _ _ _, h, grown_refl _ _⟩)
  · rw [if_neg he]
    obtain rfl : er = 0 := by omega
    by_cases h2 : (cutOf size xs).2.2 ≠ 0
    · rw [if_pos h2]
      exact (rbytes_no S g xs size w h hs h2).mono (by rintro _ _ ⟨rfl, h1, h2⟩; exact ⟨_, rfl, World.ownsRow_nil _ _ _ _, h1, h2⟩)
    · rw [if_neg h2]; exact rbytes_ok S g xs size w h hs (by omega)
theorem rrbytes_any (S : Nat → Prop) (g : Nat) (xs : List UInt8) (er : Int) (size : Nat) (w : World) (h : RdAt 133 S w g xs er) (hS : ∀ b, w.heap.size ≤ b → S b) (hs : size = 1 ∨ size = 2 ∨ size = 4) (h47 : xs.length ≤ 140737488355328) :
    Calls Try.prog 80 #[.pointer (some ⟨g, 0, none⟩), .int .i64 size] w fun e w' => ∃ u, e = .returned u ∧ w'.ownsRow w.heap.size 5 1 u (rdBytes size (xs, er)).1.length (byteCells (rdBytes size (xs, er)).1) ∧ RdAt 133 S w' g (rdBytes size (xs, er)).2.1 (rdBytes size (xs, er)).2.2 ∧ w.grownBy w' (some g) := by
  unfold rdBytes
  by_cases he : er ≠ 0
  · rw [if_pos he]
    exact (rrbytes_err S g xs er size w h he).mono (by rintro _ _ ⟨rfl, rfl⟩; exact ⟨_, rfl, World.ownsRow_nil _ _ _ _, h, grown_refl _ _⟩)
  · rw [if_neg he]
    obtain rfl : er = 0 := by omega
    by_cases h2 : (cutOf size xs).2.2 ≠ 0
    · rw [if_pos h2]
      exact (rrbytes_no S g xs size w h hs h2 h47).mono (by rintro _ _ ⟨rfl, h1, h2⟩; exact ⟨_, rfl, World.ownsRow_nil _ _ _ _, h1, h2⟩)
    · rw [if_neg h2]; exact rrbytes_ok S g xs size w h hS hs (by omega) h47

theorem RdAt.keep {T : TypeId} {S : Nat → Prop} {w w' : World} {g : Nat} {xs : List UInt8} {er : Int} (h : RdAt T S w g xs er) (hb : Below w.heap.size w w') : RdAt T S w' g xs er := by
  obtain ⟨hS, v, h1, h2⟩ := h
  exact ⟨hS, v, blk_keep hb h1, h2.keep hb⟩
theorem RdAt.mono {T : TypeId} {S S' : Nat → Prop} {w : World} {g : Nat} {xs : List UInt8} {er : Int} (h : RdAt T S w g xs er) (hS : ∀ b, b < w.heap.size → S b → S' b) (hg : ¬ S' g) : RdAt T S' w g xs er := by
  obtain ⟨-, v, h1, h2⟩ := h
  exact ⟨hg, v, h1, h2.mono hS⟩
theorem RdAt.set {T : TypeId} {S : Nat → Prop} {w : World} {g b k : Nat} {xs : List UInt8} {er : Int} (h : RdAt T S w g xs er) (hb : ¬ S b) (hne : g ≠ b) (u : Value) : RdAt T S (w.setCell ⟨b, k, none⟩ u) g xs er := by
  obtain ⟨hg, v, h1, h2⟩ := h
  exact ⟨hg, v, (Below.heap_setCell w ⟨b, k, none⟩ u g hne).trans h1, h2.keepS ((Same.refl _ _).setCell hb _)⟩
theorem grown_new {w w' : World} {r : Option Nat} (h : w.grownBy w' r) {b k : Nat} (hb : w.heap.size ≤ b) (u : Value) : w.grownBy (w'.setCell ⟨b, k, none⟩ u) r :=
  ⟨h.os, h.tape, h.output, by simp [World.setCell]; exact h.size, fun i hi hne => (Below.heap_setCell w' ⟨b, k, none⟩ u i (by simp; omega)).trans (h.block i hi hne)⟩
theorem RdAt.lt {T : TypeId} {S : Nat → Prop} {w : World} {g : Nat} {xs : List UInt8} {er : Int} (h : RdAt T S w g xs er) : g < w.heap.size := by
  obtain ⟨hS, v, h1, h2⟩ := h
  exact (Array.getElem?_eq_some_iff.1 h1).1

theorem grown_blk {w w' : World} {r : Option Nat} (h : w.grownBy w' r) {b : Nat} {o : Obj} (hne : some b ≠ r) (hb : w.heap[b]? = some o) : w'.heap[b]? = some o :=
  (h.block b (Array.getElem?_eq_some_iff.1 hb).1 hne).trans hb

set_option maxHeartbeats 1000000 in
theorem eread_any (S : Nat → Prop) (g : Nat) (xs : List UInt8) (er : Int) (w : World) (h : RdAt 143 S w g xs er) :
    Calls Try.prog 58 #[.pointer (some ⟨g, 0, none⟩)] w fun e w' => ∃ u, e = .returned (.agg #[.int .i64 (rdEnt (xs, er)).1.kind, .int .i64 (rdEnt (xs, er)).1.term, u]) ∧ w'.ownsRow w.heap.size 5 1 u (rdEnt (xs, er)).1.cmd.length (byteCells (rdEnt (xs, er)).1.cmd) ∧
      RdAt 143 S w' g (rdEnt (xs, er)).2.1 (rdEnt (xs, er)).2.2 ∧ w.grownBy w' (some g) := by
  have hg := h.lt
  have hSg := h.1
  have hb0 : ∀ o, RdAt 143 (fun b => S b ∧ b ≠ w.heap.size) (w.alloc o) g xs er := fun o => (h.mono (S' := fun b => S b ∧ b ≠ w.heap.size) (fun b hlt hs => ⟨hs, by omega⟩) (fun hs => h.1 hs.1)).keep (box_below w o)
  have HB := Lib.hid hb0
  clear h hb0
  unfold rdEnt
  have n1 := rdNum_lt 1 (xs, er)
  have n6 := rdNum_lt 6 (rdNum 1 (xs, er)).2
  obtain ⟨r1, hr1⟩ : ∃ r, r = rdNum 1 (xs, er) := ⟨_, rfl⟩
  rw [← hr1] at n1 n6 ⊢
  obtain ⟨r6, hr6⟩ : ∃ r, r = rdNum 6 r1.2 := ⟨_, rfl⟩
  rw [← hr6] at n6 ⊢
  obtain ⟨r2, hr2⟩ : ∃ r, r = rdBytes 2 r6.2 := ⟨_, rfl⟩
  rw [← hr2]
  obtain ⟨k, xs1, er1⟩ := r1
  obtain ⟨t, xs6, er6⟩ := r6
  obtain ⟨p, xs2, er2⟩ := r2
  simp only at n1 n6 ⊢
  have m1 : 0 ≤ k := n1.1
  have m2 : k < 256 := by simpa using n1.2
  have m3 : 0 ≤ t := n6.1
  have m4 : t < 281474976710656 := by simpa using n6.2
  clear n1 n6
  have hblk := blk_new w (.cells #[.int .i64 0, .int .i64 0, .slice none 0 0] 33)
  have Hblk := Lib.hid hblk
  clear hblk
  have HR := Lib.hid (And.intro hr1 (And.intro hr6 hr2))
  clear hr1 hr6 hr2
  go_enter Try.func58, Try.ntmps58
  go_wp2_with fail
  have c1 := rnum_any (fun b => S b ∧ b ≠ w.heap.size) g xs er 1 _ (HB.out (.cells #[.int .i64 0, .int .i64 0, .slice none 0 0] 33)) (by omega) (by omega)
  rw [← HR.out.1] at c1
  refine c1.mono ?_
  rintro _ w1 ⟨rfl, hrd1, hg1⟩
  have Hrd1 := Lib.hid hrd1
  have hz : w.heap.size ≤ w1.heap.size := by have := hg1.size; simp at this; omega
  have Hg1 := Lib.hid (grown_trans (grown_of_below (box_below w _) _) hg1)
  have Hblk1 := Lib.hid (grown_blk hg1 (by simp; omega) Hblk.out)
  clear c1 hrd1 hg1
  go_wp2_with fail
  have c6 := rnum_any (fun b => S b ∧ b ≠ w.heap.size) g xs1 er1 6 w1 Hrd1.out (by omega) (by omega)
  rw [← HR.out.2.1] at c6
  refine c6.mono ?_
  rintro _ w2 ⟨rfl, hrd2, hg2⟩
  have Hrd2 := Lib.hid hrd2
  have hz2 : w1.heap.size ≤ w2.heap.size := hg2.size
  have Hblk2 := Lib.hid (grown_blk hg2 (by simp; omega) Hblk1.out)
  have Hg2 := Lib.hid (grown_trans Hg1.out hg2)
  clear c6 hrd2 hg2
  go_wp2_with fail
  have c2 := rbytes_any (fun b => S b ∧ b ≠ w.heap.size) g xs6 er6 2 w2 Hrd2.out (by omega)
  rw [← HR.out.2.2] at c2
  refine c2.mono ?_
  rintro _ w3 ⟨u, rfl, hown, hrd3, hg3⟩
  have Hrd3 := Lib.hid hrd3
  have Hown := Lib.hid hown
  obtain ⟨A, c, rfl⟩ := (RowAt.of_own hown).slice
  have hblk3 := grown_blk hg3 (by simp; omega) Hblk2.out
  obtain ⟨q0, q1, q2, f0, f1, f2⟩ := cells3 hblk3
  have hwlt : w.heap.size < w2.heap.size := (Array.getElem?_eq_some_iff.1 Hblk2.out).1
  have Hg3 := Lib.hid (grown_trans Hg2.out hg3)
  clear c2 hrd3 hown hg3 hblk3
  go_wp2_with fail
  refine bodyPost_ret (v := .agg #[.int .i64 (k - 64), .int .i64 t, .slice A p.length c]) (by simp [results, Try.results58, go_sem, q0, q1, q2]) rfl ⟨_, rfl, ?_, ?_, ?_⟩
  · exact own_lower (own_far (own_far (own_far Hown.out hwlt _) hwlt _) hwlt _) (by omega)
  · have hne : g ≠ w.heap.size := by omega
    have hns : ¬ (S w.heap.size ∧ w.heap.size ≠ w.heap.size) := fun h => h.2 rfl
    exact (((Hrd3.out.set hns hne _).set hns hne _).set hns hne _).mono (fun b _ h => h.1) hSg
  · exact grown_new (grown_new (grown_new Hg3.out (Nat.le_refl _) _) (Nat.le_refl _) _) (Nat.le_refl _) _

set_option maxRecDepth 100000 in
set_option maxHeartbeats 2000000 in
theorem qget_any (S : Nat → Prop) (g : Nat) (xs : List UInt8) (er : Int) (w : World) (h : RdAt 133 S w g xs er) (hS : ∀ b, w.heap.size ≤ b → S b) (h47 : xs.length ≤ 140737488355328) :
    Calls Try.prog 61 #[.pointer (some ⟨g, 0, none⟩)] w fun e w' => ∃ u, e = .returned (.tuple #[.agg #[.int .i64 (rdEnt (xs, er)).1.kind, .int .i64 (rdEnt (xs, er)).1.term, u], .bool (rightB (rdEnt (xs, er)).1)]) ∧ w'.ownsRow w.heap.size 5 1 u (rdEnt (xs, er)).1.cmd.length (byteCells (rdEnt (xs, er)).1.cmd) ∧
      RdAt 133 S w' g (rdEnt (xs, er)).2.1 (rdEnt (xs, er)).2.2 ∧ w.grownBy w' (some g) := by
  have hg := h.lt
  have hSg := h.1
  have hb0 : ∀ o, RdAt 133 (fun b => S b ∧ b ≠ w.heap.size) (w.alloc o) g xs er := fun o => (h.mono (S' := fun b => S b ∧ b ≠ w.heap.size) (fun b hlt hs => ⟨hs, by omega⟩) (fun hs => h.1 hs.1)).keep (box_below w o)
  have HB := Lib.hid hb0
  have l1 := rdNum_len 1 (xs, er)
  have l6 := rdNum_len 6 (rdNum 1 (xs, er)).2
  clear h hb0
  unfold rdEnt
  have n1 := rdNum_lt 1 (xs, er)
  have n6 := rdNum_lt 6 (rdNum 1 (xs, er)).2
  obtain ⟨r1, hr1⟩ : ∃ r, r = rdNum 1 (xs, er) := ⟨_, rfl⟩
  rw [← hr1] at n1 n6 l1 l6 ⊢
  obtain ⟨r6, hr6⟩ : ∃ r, r = rdNum 6 r1.2 := ⟨_, rfl⟩
  rw [← hr6] at n6 l6 ⊢
  obtain ⟨r2, hr2⟩ : ∃ r, r = rdBytes 2 r6.2 := ⟨_, rfl⟩
  rw [← hr2]
  obtain ⟨k, xs1, er1⟩ := r1
  obtain ⟨t, xs6, er6⟩ := r6
  obtain ⟨p, xs2, er2⟩ := r2
  simp only at n1 n6 l1 l6 ⊢
  have m1 : 0 ≤ k := n1.1
  have m2 : k < 256 := by simpa using n1.2
  have m3 : 0 ≤ t := n6.1
  have m4 : t < 281474976710656 := by simpa using n6.2
  have HL := Lib.hid (And.intro l1 (And.intro l6 h47))
  have HS := Lib.hid hS
  clear n1 n6 l1 l6 h47 hS
  have hblk := blk_new w (.cells #[.int .i64 0, .int .i64 0, .slice none 0 0] 33)
  have Hblk := Lib.hid hblk
  clear hblk
  have HR := Lib.hid (And.intro hr1 (And.intro hr6 hr2))
  clear hr1 hr6 hr2
  go_enter Try.func61, Try.ntmps61
  go_wp2_with fail
  have c1 := rrnum_any (fun b => S b ∧ b ≠ w.heap.size) g xs er 1 _ (HB.out (.cells #[.int .i64 0, .int .i64 0, .slice none 0 0] 33)) (by omega) (by omega)
  rw [← HR.out.1] at c1
  refine c1.mono ?_
  rintro _ w1 ⟨rfl, hrd1, hg1⟩
  have Hrd1 := Lib.hid hrd1
  have hz : w.heap.size ≤ w1.heap.size := by have := hg1.size; simp at this; omega
  have Hg1 := Lib.hid (grown_trans (grown_of_below (box_below w _) _) hg1)
  have Hblk1 := Lib.hid (grown_blk hg1 (by simp; omega) Hblk.out)
  clear c1 hrd1 hg1
  go_wp2_with fail
  have c6 := rrnum_any (fun b => S b ∧ b ≠ w.heap.size) g xs1 er1 6 w1 Hrd1.out (by omega) (by omega)
  rw [← HR.out.2.1] at c6
  refine c6.mono ?_
  rintro _ w2 ⟨rfl, hrd2, hg2⟩
  have hz2 : w1.heap.size ≤ w2.heap.size := hg2.size
  have hwlt : w.heap.size < w2.heap.size := (Array.getElem?_eq_some_iff.1 (grown_blk hg2 (by simp; omega) Hblk1.out)).1
  have Hblk2 := Lib.hid (blk_alloc (grown_blk hg2 (by simp; omega) Hblk1.out) (.cells #[.int .i64 (k - 64), .int .i64 t, .slice none 0 0] 33))
  have HblkE := Lib.hid (blk_new w2 (.cells #[.int .i64 (k - 64), .int .i64 t, .slice none 0 0] 33))
  have hgE : g ≠ w2.heap.size := by omega
  have Hrd2 : Hid (RdAt 133 (fun b => S b ∧ b ≠ w.heap.size ∧ b ≠ w2.heap.size) (w2.alloc (.cells #[.int .i64 (k - 64), .int .i64 t, .slice none 0 0] 33)) g xs6 er6) :=
    Lib.hid ((hrd2.mono (S' := fun b => S b ∧ b ≠ w.heap.size ∧ b ≠ w2.heap.size) (fun b hlt hs => ⟨hs.1, hs.2, by omega⟩) (fun hs => hSg hs.1)).keep (box_below w2 _))
  have Hg2 := Lib.hid (grown_trans Hg1.out (grown_below hg2 (box_below w2 (.cells #[.int .i64 (k - 64), .int .i64 t, .slice none 0 0] 33))))
  clear c6 hrd2 hg2
  go_wp2_with fail
  have c2 := rrbytes_any (fun b => S b ∧ b ≠ w.heap.size ∧ b ≠ w2.heap.size) g xs6 er6 2 _ Hrd2.out (fun b hb => ⟨HS.out b (by simp at hb; omega), by simp at hb; omega, by simp at hb; omega⟩) (by omega) (by have := HL.out; omega)
  rw [← HR.out.2.2] at c2
  refine c2.mono ?_
  rintro _ w3 ⟨u, rfl, hown, hrd3, hg3⟩
  have Hrd3 := Lib.hid hrd3
  have Hown := Lib.hid hown
  obtain ⟨A, c, rfl⟩ := (RowAt.of_own hown).slice
  have hblk3 := grown_blk hg3 (by simp; omega) Hblk2.out
  have hblkE3 := grown_blk hg3 (by simp; omega) HblkE.out
  have hz3 : w2.heap.size + 1 ≤ w3.heap.size := by have := hg3.size; simpa using this
  obtain ⟨q0, q1, q2, f0, f1, f2⟩ := cells3 hblk3
  obtain ⟨e0, e1, e2, i0, i1, i2⟩ := cells3 hblkE3
  have Hg3 := Lib.hid (grown_trans Hg2.out hg3)
  have HR3 := Lib.hid hblk3
  have HE3 := Lib.hid hblkE3
  clear c2 hrd3 hown hg3 hblk3 hblkE3
  go_wp2_with fail
  have hE4 : (w3.setCell ⟨w2.heap.size, 2, none⟩ (.slice A p.length c)).heap[w2.heap.size]? = some (.cells #[.int .i64 (k - 64), .int .i64 t, .slice A p.length c] 33 (0, 0)) := by
    simp [World.setCell, Array.getElem?_modify, HE3.out]
  have hR4 : (w3.setCell ⟨w2.heap.size, 2, none⟩ (.slice A p.length c)).heap[w.heap.size]? = some (.cells #[.int .i64 0, .int .i64 0, .slice none 0 0] 33 (0, 0)) :=
    (Below.heap_setCell w3 ⟨w2.heap.size, 2, none⟩ _ _ (by simp; omega)).trans HR3.out
  have own4 := own_far (k := 2) Hown.out (by simp : w2.heap.size < (w2.alloc (.cells #[.int .i64 (k - 64), .int .i64 t, .slice none 0 0] 33)).heap.size) (.slice A p.length c)
  have hns : ¬ (S w2.heap.size ∧ w2.heap.size ≠ w.heap.size ∧ w2.heap.size ≠ w2.heap.size) := fun h => h.2.2 rfl
  have rd4 := Hrd3.out.set (k := 2) hns hgE (.slice A p.length c)
  have g4 := grown_new (k := 2) Hg3.out (by omega : w.heap.size ≤ w2.heap.size) (.slice A p.length c)
  obtain ⟨W4, hW4⟩ : ∃ W4, w3.setCell ⟨w2.heap.size, 2, none⟩ (.slice A p.length c) = W4 := ⟨_, rfl⟩
  rw [hW4] at hE4 hR4 own4 rd4 g4 ⊢
  clear q0 q1 q2 f0 f1 f2 e0 e1 e2 i0 i1 i2 hW4
  obtain ⟨q0, q1, q2, f0, f1, f2⟩ := cells3 hR4
  obtain ⟨e0, e1, e2, i0, i1, i2⟩ := cells3 hE4
  have own4' := own_lower own4 (B := w2.heap.size + 1) (by simp)
  have hby : Bytes (fun b => w2.heap.size + 1 ≤ b) W4 (.slice A p.length c) p := RowAt.of_own own4'
  have hRr : ∀ W, Same (fun b => w2.heap.size + 1 ≤ b) W4 W → Calls Try.prog 54 #[.agg #[.int .i64 (k - 64), .int .i64 t, .slice A p.length c]] W fun e w' => e = .returned (.bool (rightB ⟨k - 64, t, p⟩)) ∧ Below W.heap.size W w' :=
    fun W hs => qright_any (k - 64) t _ p _ (hby.keepS hs)
  have z4 : w.heap.size < W4.heap.size := block_lt q0
  have z4' : w2.heap.size < W4.heap.size := block_lt e0
  have hn1 : ¬ (w2.heap.size + 1 ≤ w.heap.size) := by omega
  have HRr := Lib.hid hRr
  have Hown4 := Lib.hid own4
  have Hrd4 := Lib.hid rd4
  have Hg4 := Lib.hid g4
  clear own4 rd4 g4 own4' hby hRr hns hE4 hR4
  go_region_with (go_at_call 54; (first | (refine (HRr.out _ ((Same.refl _ _).drew)).mono ?_) | (refine (HRr.out _ (((((Same.refl _ _).drew).setCell hn1 _).setCell hn1 _).setCell hn1 _)).mono ?_)); rintro _ w5 ⟨rfl, hb5⟩; (try (have p0 : w5.cell? ⟨w.heap.size, 0, none⟩ = some (.int .i64 0) := cell_keep (w := W4.drew) hb5 q0; have p1 : w5.cell? ⟨w.heap.size, 1, none⟩ = some (.int .i64 0) := cell_keep (w := W4.drew) hb5 q1; have p2 : w5.cell? ⟨w.heap.size, 2, none⟩ = some (.slice none 0 0) := cell_keep (w := W4.drew) hb5 q2; have h0 : w5.frozen? ⟨w.heap.size, 0, none⟩ = false := (hb5.frozen (p := ⟨w.heap.size, 0, none⟩) z4).trans f0; have h1 : w5.frozen? ⟨w.heap.size, 1, none⟩ = false := (hb5.frozen (p := ⟨w.heap.size, 1, none⟩) z4).trans f1; have h2 : w5.frozen? ⟨w.heap.size, 2, none⟩ = false := (hb5.frozen (p := ⟨w.heap.size, 2, none⟩) z4).trans f2; have j0 : w5.cell? ⟨w2.heap.size, 0, none⟩ = some (.int .i64 (k - 64)) := cell_keep (w := W4.drew) hb5 e0; have j1 : w5.cell? ⟨w2.heap.size, 1, none⟩ = some (.int .i64 t) := cell_keep (w := W4.drew) hb5 e1; have j2 : w5.cell? ⟨w2.heap.size, 2, none⟩ = some (.slice A p.length c) := cell_keep (w := W4.drew) hb5 e2)))
  all_goals
    go_wp2_with fail
    have own5 := own_keep (w := W4) Hown4.out (below_of_drew hb5)
    have rd5 := Hrd4.out.keep (below_of_drew hb5)
    have g5 := grown_below Hg4.out (below_of_drew hb5)
    refine bodyPost_ret (v := .tuple #[.agg #[.int .i64 (k - 64), .int .i64 t, .slice A p.length c], .bool (rightB ⟨k - 64, t, p⟩)]) (by simp [results, Try.results61, go_sem, p0, p1, p2]) rfl ⟨_, rfl, ?_, ?_, ?_⟩
    · exact own_lower (own_far (own_far (own_far own5 (by simp; omega) _) (by simp; omega) _) (by simp; omega) _) (by simp; omega)
    · have hne : g ≠ w.heap.size := by omega
      have hns : ¬ (S w.heap.size ∧ w.heap.size ≠ w.heap.size ∧ w.heap.size ≠ w2.heap.size) := fun h => h.2.1 rfl
      exact (((rd5.set hns hne _).set hns hne _).set hns hne _).mono (fun b _ h => h.1) hSg
    · exact grown_new (grown_new (grown_new g5 (Nat.le_refl _) _) (Nat.le_refl _) _) (Nat.le_refl _) _
end Go.Proofs.Ytoaoldhajpbenaa

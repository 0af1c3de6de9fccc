/- A reader of package field: what each call does. No statement is proved here. -/
import Derived.Test.YtoaoldhajpbenaaFldB
import Derived.Deep.CutBlock
namespace Go.Proofs.Ytoaoldhajpbenaa
open Go.RowKit

/-- A reader in block g: its bytes lie in S, where its own block is not; and its error. -/
def RdAt (T : TypeId) (S : Nat → Prop) (w : World) (g : Nat) (xs : List UInt8) (er : Int) : Prop :=
  ¬ S g ∧ ∃ v, w.heap[g]? = some (.cells #[v, .int .i64 er] T (0, 0)) ∧ Bytes S w v xs

theorem grown_refl (w : World) (r : Option Nat) : w.grownBy w r := ⟨rfl, rfl, rfl, Nat.le_refl _, fun _ _ _ => rfl⟩
theorem grown_set {w w' : World} {g : Nat} (h : w.grownBy w' (some g)) (k : Nat) (u : Value) : w.grownBy (w'.setCell ⟨g, k, none⟩ u) (some g) :=
  ⟨h.os, h.tape, h.output, by simp [World.setCell]; exact h.size, fun i hi hne => (Below.heap_setCell w' ⟨g, k, none⟩ u i (fun e => hne (by rw [e]))).trans (h.block i hi hne)⟩
theorem grown_below {w w1 w2 : World} {r : Option Nat} (h : w.grownBy w1 r) (k : Below w1.heap.size w1 w2) : w.grownBy w2 r :=
  ⟨k.os.trans h.os, k.tape.trans h.tape, k.output.trans h.output, Nat.le_trans h.size k.size, fun i hi hne => (k.block i (Nat.lt_of_lt_of_le hi h.size)).trans (h.block i hi hne)⟩
theorem grown_of_below {w w1 : World} (k : Below w.heap.size w w1) (r : Option Nat) : w.grownBy w1 r := grown_below (grown_refl w r) k
theorem grown_trans {w w1 w2 : World} {r : Option Nat} (h : w.grownBy w1 r) (k : w1.grownBy w2 r) : w.grownBy w2 r :=
  ⟨k.os.trans h.os, k.tape.trans h.tape, k.output.trans h.output, Nat.le_trans h.size k.size, fun i hi hne => (k.block i (Nat.lt_of_lt_of_le hi h.size) hne).trans (h.block i hi hne)⟩
theorem same_grownG {w w' : World} {g : Nat} (h : w.grownBy w' (some g)) {S : Nat → Prop} (hS : ¬ S g) : Same S w w' :=
  ⟨h.size, fun b hb hlt => h.block b hlt (fun e => by injection e with e; exact hS (e ▸ hb))⟩

theorem Bytes.drop {S : Nat → Prop} {w : World} {b o n c : Nat} {xs : List UInt8} (h : Bytes S w (.slice (some ⟨b, o, none⟩) n c) xs) (k c' : Nat) (hk : k ≤ n) (hc : n - k ≤ c') (hc' : c' ≤ maxLen) :
    Bytes S w (.slice (some ⟨b, o + k, none⟩) (n - k) c') (xs.drop k) := by
  have hn : n = xs.length := by obtain ⟨A, c1, e⟩ := h.slice; injection e
  subst hn
  have := RowAt.cut (sz := 1) h k (xs.length - k) c' (by omega) hc hc'
  have e : (xs.drop k).length = xs.length - k := by simp
  have e2 : ((byteCells xs).drop (k * 1)).take ((xs.length - k) * 1) = byteCells (xs.drop k) := by
    rw [Nat.mul_one, Nat.mul_one, List.take_of_length_le (by simp [byteCells_length])]
    simp [byteCells]
  rw [e2, Nat.mul_one] at this
  unfold Bytes
  rw [e]
  exact this
theorem Bytes.mid {S : Nat → Prop} {w : World} {b o n c : Nat} {xs : List UInt8} (h : Bytes S w (.slice (some ⟨b, o, none⟩) n c) xs) (lo k c' : Nat) (hk : lo + k ≤ n) (hc : k ≤ c') (hc' : c' ≤ maxLen) :
    Bytes S w (.slice (some ⟨b, o + lo, none⟩) k c') ((xs.drop lo).take k) := by
  have hn : n = xs.length := by obtain ⟨A, c1, e⟩ := h.slice; injection e
  subst hn
  have := RowAt.cut (sz := 1) h lo k c' hk hc hc'
  have e : ((xs.drop lo).take k).length = k := by simp; omega
  have e2 : ((byteCells xs).drop (lo * 1)).take (k * 1) = byteCells ((xs.drop lo).take k) := by
    rw [Nat.mul_one, Nat.mul_one]
    simp [byteCells]
  rw [e2, Nat.mul_one] at this
  unfold Bytes
  rw [e]
  exact this
theorem Bytes.none {S : Nat → Prop} {w : World} {a : Addr} {n c : Nat} {xs : List UInt8} (h : xs.length = 0) (hn : n = 0) : Bytes S w (.slice (some a) n c) xs := by
  subst hn
  exact ⟨by simp [byteCells_length], .inl ⟨h, .inr ⟨a, c, rfl⟩⟩⟩

theorem rok_any (S : Nat → Prop) (g : Nat) (xs : List UInt8) (er : Int) (w : World) (h : RdAt 143 S w g xs er) :
    Calls Try.prog 98 #[.pointer (some ⟨g, 0, none⟩)] w fun e w' => e = .returned (.bool (er == 0)) ∧ w = w' := by
  obtain ⟨hB, v, hblk, hby⟩ := h
  obtain ⟨c0, c1, f0, f1⟩ := cells2 hblk
  clear hblk hby
  go_enter Try.func98, Try.ntmps98
  go_wp2
  go_ret
  exact ⟨rfl, rfl⟩

/-- Where an error stands nothing is read. -/
theorem rnum_err (S : Nat → Prop) (g : Nat) (xs : List UInt8) (er : Int) (size : Int) (w : World) (h : RdAt 143 S w g xs er) (he : er ≠ 0) :
    Calls Try.prog 74 #[.pointer (some ⟨g, 0, none⟩), .int .i64 size] w fun e w' => e = .returned (.int .i64 0) ∧ w = w' := by
  have hk := rok_any S g xs er w h
  have hb : (er == 0) = false := by simpa using he
  rw [hb] at hk
  have Hk := Lib.hid hk
  clear hk h he hb
  go_enter Try.func74, Try.ntmps74
  go_wp2_with (go_at_call 98; refine Hk.out.mono ?_; rintro _ _ ⟨rfl, rfl⟩)
  go_ret
  exact ⟨rfl, rfl⟩

theorem rnum_short (S : Nat → Prop) (g : Nat) (xs : List UInt8) (size : Nat) (w : World) (h : RdAt 143 S w g xs 0) (h1 : 1 ≤ size) (h8 : size ≤ 8) (hx : xs.length < size) :
    Calls Try.prog 74 #[.pointer (some ⟨g, 0, none⟩), .int .i64 size] w fun e w' => e = .returned (.int .i64 0) ∧ RdAt 143 S w' g xs 10 ∧ w.grownBy w' (some g) := by
  have hk := rok_any S g xs 0 w h
  have Hk := Lib.hid hk
  have H := Lib.hid h
  obtain ⟨hB, v, hblk, hby⟩ := h
  obtain ⟨c0, c1, f0, f1⟩ := cells2 hblk
  obtain ⟨A, c, rfl⟩ := hby.slice
  have hg := get_no A xs.length c 0 size w (by omega) (by omega) (by omega) (by omega) (by omega) (by simp [thereB]; omega)
  have Hg := Lib.hid hg
  have Hblk := Lib.hid hblk
  clear hk hby hblk hg
  have s1 : 1 ≤ (size : Int) := by omega
  have s8 : (size : Int) ≤ 8 := by omega
  go_enter Try.func74, Try.ntmps74
  go_wp2_with (first | (go_at_call 98; refine Hk.out.mono ?_; rintro _ _ ⟨rfl, rfl⟩) | (go_at_call 73; refine Hg.out.mono ?_; rintro _ _ ⟨rfl, rfl⟩))
  go_ret
  refine ⟨rfl, ?_, grown_set (grown_refl _ _) _ _⟩
  obtain ⟨hB', v', hblk', hby'⟩ := H.out
  refine ⟨hB', _, blk_put1 Hblk.out _, ?_⟩
  have e : v' = .slice A xs.length c := by
    have := hblk'.symm.trans Hblk.out
    simpa using this
  exact (e ▸ hby').keepS ((Same.refl _ _).setCell (by simpa using hB') _)

theorem rnum_ok (S : Nat → Prop) (g : Nat) (xs : List UInt8) (size : Nat) (w : World) (h : RdAt 143 S w g xs 0) (h1 : 1 ≤ size) (h8 : size ≤ 7) (hx : size ≤ xs.length) :
    Calls Try.prog 74 #[.pointer (some ⟨g, 0, none⟩), .int .i64 size] w fun e w' => e = .returned (.int .i64 (beVal (xs.take size))) ∧ RdAt 143 S w' g (xs.drop size) 0 ∧ w.grownBy w' (some g) := by
  have hk := rok_any S g xs 0 w h
  have Hk := Lib.hid hk
  obtain ⟨hB, v, hblk, hby⟩ := h
  obtain ⟨c0, c1, f0, f1⟩ := cells2 hblk
  have hg := get_yes v xs 0 size w hby h1 (by omega) (by omega)
  have Hby := Lib.hid hby
  have hle := hby.le
  obtain ⟨b, o, c, rfl, hn, hc, -, hb, hcell⟩ := hby.form (by omega)
  rw [List.drop_zero] at hg
  have Hg := Lib.hid hg
  have Hblk := Lib.hid hblk
  have hbl := beVal_lt (xs.take size)
  have hkk : (xs.take size).length = size := by simp; omega
  rw [hkk] at hbl
  have hpw : 256 ^ size ≤ 256 ^ 7 := Nat.pow_le_pow_right (by omega) (by omega)
  have hm : beVal (xs.take size) < 72057594037927936 := Nat.lt_of_lt_of_le hbl hpw
  unfold maxLen at hc
  clear hk hby hblk hg hbl hkk hpw hcell hle
  generalize beVal (xs.take size) = m at *
  have s1 : 1 ≤ (size : Int) := by omega
  have s8 : (size : Int) ≤ 8 := by omega
  have s9 : (size : Int) ≤ xs.length := by omega
  have s10 : (size : Int) ≤ c := by omega
  have s11 : (xs.length : Int) ≤ c := by omega
  obtain ⟨M, hM⟩ : ∃ M : Int, M = m := ⟨_, rfl⟩
  have m1 : 0 ≤ M := by omega
  have m2 : M < 72057594037927936 := by omega
  rw [← hM] at Hg
  rw [← hM]
  clear hM hm
  go_enter Try.func74, Try.ntmps74
  go_wp2_with (first | (go_at_call 98; refine Hk.out.mono ?_; rintro _ _ ⟨rfl, rfl⟩) | (go_at_call 73; refine Hg.out.mono ?_; rintro _ _ ⟨rfl, rfl⟩))
  · go_ret
    refine ⟨rfl, ⟨hB, _, blk_put Hblk.out _, ?_⟩, grown_set (grown_refl _ _) _ _⟩
    exact (Bytes.none (by simp; omega) (by omega)).keepS ((Same.refl _ _).setCell hB _)
  · go_ret
    refine ⟨rfl, ⟨hB, _, blk_put Hblk.out _, ?_⟩, grown_set (grown_refl _ _) _ _⟩
    exact (Bytes.drop Hby.out size (c - size) (by omega) (by omega) (by unfold maxLen; omega)).keepS ((Same.refl _ _).setCell hB _)

/-- What a piece behind its length is: its bytes, where it ends, what is wrong. -/
def cutOf (size : Nat) (xs : List UInt8) : List UInt8 × Nat × Int :=
  if xs.length < size then ([], 0, 10)
  else if beVal (xs.take size) > 65536 then ([], 0, 3)
  else if xs.length - size < beVal (xs.take size) then ([], 0, 10)
  else ((xs.drop size).take (beVal (xs.take size)), size + beVal (xs.take size), 0)

theorem ret3 {u : Value} {a b c : Int} (h : a = b) : Ending.returned (.tuple #[u, .int .i64 a, .int .i64 c]) = Ending.returned (.tuple #[u, .int .i64 b, .int .i64 c]) := by rw [h]
theorem rightSize_yes (size : Nat) (hs : size = 1 ∨ size = 2 ∨ size = 4) (w : World) :
    Calls Try.prog 104 #[.int .i64 size] w fun e w' => e = .returned (.bool true) ∧ w = w' := by
  refine (rightSize_any size w).mono ?_
  rintro _ _ ⟨rfl, rfl⟩
  refine ⟨?_, rfl⟩
  rcases hs with rfl | rfl | rfl <;> rfl

theorem cut_any (S : Nat → Prop) (v : Value) (xs : List UInt8) (size : Nat) (w : World) (hv : Bytes S w v xs) (hs : size = 1 ∨ size = 2 ∨ size = 4) :
    Calls Try.prog 99 #[v, .int .i64 size] w fun e w' => ∃ u, e = .returned (.tuple #[u, .int .i64 (cutOf size xs).2.1, .int .i64 (cutOf size xs).2.2]) ∧ w'.ownsRow w.heap.size 5 1 u (cutOf size xs).1.length (byteCells (cutOf size xs).1) ∧ Below w.heap.size w w' := by
  have hr := rightSize_yes size hs
  have Hr := Lib.hid hr
  have hle := hv.le
  unfold maxLen at hle
  clear hr
  by_cases c1 : xs.length < size
  · obtain ⟨A, c, rfl⟩ := hv.slice
    have hg := get_no A xs.length c 0 size w (by omega) (by omega) (by omega) (by omega) (by omega) (by simp [thereB]; omega)
    have Hg := Lib.hid hg
    have e : cutOf size xs = ([], 0, 10) := by simp [cutOf, c1]
    rw [e]
    clear hg e
    go_enter Try.func99, Try.ntmps99
    go_wp2_with (first | (go_at_call 104; refine (Hr.out _).mono ?_; rintro _ _ ⟨rfl, rfl⟩) | (go_at_call 73; refine Hg.out.mono ?_; rintro _ _ ⟨rfl, rfl⟩))
    go_ret3
    exact ⟨_, rfl, World.ownsRow_nil _ _ _ _, Below.refl _ _⟩
  · have hg := get_yes v xs 0 size w hv (by omega) (by omega) (by omega)
    rw [List.drop_zero] at hg
    have Hg := Lib.hid hg
    have Hv := Lib.hid hv
    obtain ⟨b, o, c, rfl, hn, hc, -, hb, hcell⟩ := hv.form (by omega)
    have ecut : cutOf size xs = if beVal (xs.take size) > 65536 then ([], 0, 3) else if xs.length - size < beVal (xs.take size) then ([], 0, 10)
      else ((xs.drop size).take (beVal (xs.take size)), size + beVal (xs.take size), 0) := by unfold cutOf; rw [if_neg c1]
    rw [ecut]
    have hbl := beVal_lt (xs.take size)
    have hkk : (xs.take size).length = size := by simp; omega
    rw [hkk] at hbl
    have hpw : 256 ^ size ≤ 256 ^ 7 := Nat.pow_le_pow_right (by omega) (by omega)
    have hm : beVal (xs.take size) < 72057594037927936 := Nat.lt_of_lt_of_le hbl hpw
    unfold maxLen at hc
    clear hg hbl hkk hpw hcell ecut hv
    generalize beVal (xs.take size) = m at *
    obtain ⟨M, hM⟩ : ∃ M : Int, M = m := ⟨_, rfl⟩
    rw [← hM] at Hg
    have s1 : 1 ≤ (size : Int) := by omega
    have s8 : (size : Int) ≤ 4 := by omega
    have s9 : (size : Int) ≤ xs.length := by omega
    have s10 : (size : Int) ≤ c := by omega
    have s11 : (xs.length : Int) ≤ c := by omega
    have m1 : 0 ≤ M := by omega
    have m2 : M < 72057594037927936 := by omega
    by_cases c2 : m > 65536
    · rw [if_pos c2]
      have c2' : 65536 < M := by omega
      have HM := Lib.hid hM
      clear hM hm hs
      go_enter Try.func99, Try.ntmps99
      go_wp2_with (first | (go_at_call 104; refine (Hr.out _).mono ?_; rintro _ _ ⟨rfl, rfl⟩) | (go_at_call 73; refine Hg.out.mono ?_; rintro _ _ ⟨rfl, rfl⟩))
      go_ret3
      exact ⟨_, rfl, World.ownsRow_nil _ _ _ _, Below.refl _ _⟩
    · rw [if_neg c2]
      have c2' : M ≤ 65536 := by omega
      by_cases c3 : xs.length - size < m
      · rw [if_pos c3]
        have c3' : (xs.length : Int) - size < M := by omega
        have HM := Lib.hid hM
        clear hM hm hs
        go_enter Try.func99, Try.ntmps99
        go_wp2_with (first | (go_at_call 104; refine (Hr.out _).mono ?_; rintro _ _ ⟨rfl, rfl⟩) | (go_at_call 73; refine Hg.out.mono ?_; rintro _ _ ⟨rfl, rfl⟩))
        go_ret3
        exact ⟨_, rfl, World.ownsRow_nil _ _ _ _, Below.refl _ _⟩
      · rw [if_neg c3]
        have c3' : ¬ ((xs.length : Int) - size < M) := by omega
        have c4 : (size : Int) + M ≤ xs.length := by omega
        have c5 : (size : Int) + M ≤ c := by omega
        have HM := Lib.hid hM
        obtain ⟨p, hp⟩ : ∃ p, p = (xs.drop size).take m := ⟨_, rfl⟩
        rw [← hp]
        have Hp := Lib.hid hp
        clear hM hm hs hp
        go_enter Try.func99, Try.ntmps99
        go_wp2_with (first | (go_at_call 104; refine (Hr.out _).mono ?_; rintro _ _ ⟨rfl, rfl⟩) | (go_at_call 73; refine Hg.out.mono ?_; rintro _ _ ⟨rfl, rfl⟩))
        all_goals
          refine (clone_bytes (S := S) _ _ p ?hb ?hl).mono ?_
          case hl => have := HM.out; rw [Hp.out]; simp; omega
          case hb => rw [Hp.out]; have hM := HM.out; first | (have := Bytes.mid Hv.out size m (c - size) (by omega) (by omega) (by unfold maxLen; omega); rw [hM]; rwa [show ((size : Int) + m).toNat - size = m by omega]) | exact Bytes.none (by simp; omega) (by omega)
          rintro _ w1 ⟨u, rfl, hown, hbl⟩
          have Hown := Lib.hid hown
          obtain ⟨A1, c1, rfl⟩ := (RowAt.of_own hown).slice
          clear hown
          go_wp2_with fail
          go_ret3
          exact ⟨_, ret3 (by have := HM.out; omega), Hown.out, hbl⟩

theorem rbytes_err (S : Nat → Prop) (g : Nat) (xs : List UInt8) (er : Int) (size : Int) (w : World) (h : RdAt 143 S w g xs er) (he : er ≠ 0) :
    Calls Try.prog 76 #[.pointer (some ⟨g, 0, none⟩), .int .i64 size] w fun e w' => e = .returned (.slice none 0 0) ∧ w = w' := by
  have hk := rok_any S g xs er w h
  have hb : (er == 0) = false := by simpa using he
  rw [hb] at hk
  have Hk := Lib.hid hk
  clear hk h he hb
  go_enter Try.func76, Try.ntmps76
  go_wp2_with (go_at_call 98; refine Hk.out.mono ?_; rintro _ _ ⟨rfl, rfl⟩)
  go_ret
  exact ⟨rfl, rfl⟩

theorem grown_cell {w w' : World} {r : Option Nat} (h : w.grownBy w' r) {p : Addr} {v : Value} (hr : r ≠ some p.block) (hc : w.cell? p = some v) : w'.cell? p = some v := by
  have := World.cell?_of_block (w := w) (h.block p.block (block_lt hc) (fun e => hr e.symm))
  rw [this, hc]

/-- What is wrong of a piece. -/
theorem rbytes_no (S : Nat → Prop) (g : Nat) (xs : List UInt8) (size : Nat) (w : World) (h : RdAt 143 S w g xs 0) (hs : size = 1 ∨ size = 2 ∨ size = 4) (he : (cutOf size xs).2.2 ≠ 0) :
    Calls Try.prog 76 #[.pointer (some ⟨g, 0, none⟩), .int .i64 size] w fun e w' => e = .returned (.slice none 0 0) ∧ RdAt 143 S w' g xs (cutOf size xs).2.2 ∧ w.grownBy w' (some g) := by
  have hk := rok_any S g xs 0 w h
  have Hk := Lib.hid hk
  obtain ⟨hB, v, hblk, hby⟩ := h
  obtain ⟨c0, c1, f0, f1⟩ := cells2 hblk
  have hcut := cut_any S v xs size w hby hs
  have Hcut := Lib.hid hcut
  have Hblk := Lib.hid hblk
  have Hby := Lib.hid hby
  have he' : ((cutOf size xs).2.2 == 0) = false := by simpa using he
  have he2 : ((cutOf size xs).2.2 != 0) = true := by simpa using he
  obtain ⟨A, c, rfl⟩ := hby.slice
  clear hk hby hblk hcut he
  generalize (cutOf size xs).2.2 = er at *
  go_enter Try.func76, Try.ntmps76
  go_wp2_with (go_at_call 98; refine Hk.out.mono ?_; rintro _ _ ⟨rfl, rfl⟩)
  refine Hcut.out.mono ?_
  rintro _ w1 ⟨u, rfl, -, hb⟩
  have hblk1 := blk_keep hb Hblk.out
  obtain ⟨d0, d1, e0, e1⟩ := cells2 hblk1
  have Hblk1 := Lib.hid hblk1
  clear hblk1
  go_wp2_with fail
  go_ret
  exact ⟨rfl, ⟨hB, _, blk_put1 Hblk1.out _, ((Hby.out.keep hb).keepS ((Same.refl _ _).setCell hB _))⟩, grown_set (grown_of_below hb _) _ _⟩

theorem cutOf_le (size : Nat) (xs : List UInt8) (he : (cutOf size xs).2.2 = 0) : (cutOf size xs).2.1 ≤ xs.length := by
  unfold cutOf at *
  by_cases h1 : xs.length < size
  · rw [if_pos h1] at he; simp at he
  · rw [if_neg h1] at he ⊢
    by_cases h2 : beVal (xs.take size) > 65536
    · rw [if_pos h2] at he; simp at he
    · rw [if_neg h2] at he ⊢
      by_cases h3 : xs.length - size < beVal (xs.take size)
      · rw [if_pos h3] at he; simp at he
      · rw [if_neg h3]
        show size + _ ≤ _
        omega
theorem cutOf_len (size : Nat) (xs : List UInt8) : (cutOf size xs).1.length ≤ 65536 := by
  unfold cutOf
  by_cases h1 : xs.length < size
  · rw [if_pos h1]; simp
  · rw [if_neg h1]
    by_cases h2 : beVal (xs.take size) > 65536
    · rw [if_pos h2]; simp
    · rw [if_neg h2]
      by_cases h3 : xs.length - size < beVal (xs.take size)
      · rw [if_pos h3]; simp
      · rw [if_neg h3]
        simp
        omega
theorem own_far {w : World} {B size n g k : Nat} {e : TypeId} {v : Value} {xs : List Value} (h : w.ownsRow B e size v n xs) (hg : g < B) (u : Value) : (w.setCell ⟨g, k, none⟩ u).ownsRow B e size v n xs := by
  refine h.kept (row := some g) ⟨rfl, rfl, rfl, by simp [World.setCell], fun i hi hne => Below.heap_setCell w ⟨g, k, none⟩ u i (fun e => hne (by rw [e]))⟩ (.inr fun e => ?_)
  have := own_blk_ge h _ e
  omega

theorem rbytes_ok (S : Nat → Prop) (g : Nat) (xs : List UInt8) (size : Nat) (w : World) (h : RdAt 143 S w g xs 0) (hs : size = 1 ∨ size = 2 ∨ size = 4) (he : (cutOf size xs).2.2 = 0) :
    Calls Try.prog 76 #[.pointer (some ⟨g, 0, none⟩), .int .i64 size] w fun e w' => ∃ u, e = .returned u ∧ w'.ownsRow w.heap.size 5 1 u (cutOf size xs).1.length (byteCells (cutOf size xs).1) ∧ RdAt 143 S w' g (xs.drop (cutOf size xs).2.1) 0 ∧ w.grownBy w' (some g) := by
  have hk := rok_any S g xs 0 w h
  have Hk := Lib.hid hk
  obtain ⟨hB, v, hblk, hby⟩ := h
  obtain ⟨c0, c1, f0, f1⟩ := cells2 hblk
  have hgs := block_lt c0
  have hcut := cut_any S v xs size w hby hs
  rw [he] at hcut
  have hend := cutOf_le size xs he
  have hl0 : 0 < xs.length := by
    have : ¬ xs.length < size := by
      intro hh
      simp [cutOf, hh] at he
    omega
  have Hcut := Lib.hid hcut
  have Hblk := Lib.hid hblk
  have Hby := Lib.hid hby
  have hle := hby.le
  obtain ⟨b, o, c, rfl, hn, hc, -, hb, hcell⟩ := hby.form hl0
  unfold maxLen at hc
  clear hk hby hblk hcut he hcell hle hs
  generalize (cutOf size xs).2.1 = en at *
  generalize (cutOf size xs).1 = p at *
  obtain ⟨M, hM⟩ : ∃ M : Int, M = en := ⟨_, rfl⟩
  rw [← hM] at Hcut
  have s1 : 0 ≤ M := by omega
  have s9 : M ≤ xs.length := by omega
  have s10 : M ≤ c := by omega
  have s11 : (xs.length : Int) ≤ c := by omega
  have HM := Lib.hid hM
  clear hM
  go_enter Try.func76, Try.ntmps76
  go_wp2_with (go_at_call 98; refine Hk.out.mono ?_; rintro _ _ ⟨rfl, rfl⟩)
  refine Hcut.out.mono ?_
  rintro _ w1 ⟨u, rfl, hown, hb1⟩
  have hblk1 := blk_keep hb1 Hblk.out
  obtain ⟨d0, d1, e0, e1⟩ := cells2 hblk1
  have Hblk1 := Lib.hid hblk1
  have Hown := Lib.hid hown
  obtain ⟨A1, cc, rfl⟩ := (RowAt.of_own hown).slice
  clear hblk1 hown
  go_wp2_with fail
  all_goals
    go_ret
    obtain rfl := HM.out
    refine ⟨_, rfl, own_far (own_far Hown.out hgs _) hgs _, ⟨hB, _, blk_put (blk_put1 Hblk1.out _) _, ?_⟩, grown_set (grown_set (grown_of_below hb1 _) _ _) _ _⟩
    refine Bytes.keepS (w := w1) ?_ (((Same.refl _ _).setCell hB _).setCell hB _)
    simp only [Int.toNat_natCast] at *
    first
    | exact Bytes.none (by simp; omega) (by omega)
    | exact Bytes.drop (Hby.out.keep hb1) en (c - en) (by omega) (by omega) (by unfold maxLen; omega)

theorem newReader_any (S : Nat → Prop) (v : Value) (xs : List UInt8) (w : World) (hv : Bytes S w v xs) (h47 : xs.length ≤ 140737488355328) :
    Calls Try.prog 57 #[v] w fun e w' => ∃ g, e = .returned (.pointer (some ⟨g, 0, none⟩)) ∧ w.heap.size ≤ g ∧ RdAt 143 (fun b => w.heap.size ≤ b ∧ b ≠ g) w' g xs 0 ∧ Below w.heap.size w w' := by
  have Hv := Lib.hid hv
  obtain ⟨A, c, rfl⟩ := hv.slice
  clear hv
  go_enter Try.func57, Try.ntmps57
  go_wp2_with fail
  refine (clone_bytes _ _ xs Hv.out h47).mono ?_
  rintro _ w1 ⟨u, rfl, hown, hb⟩
  have hr := RowAt.of_own hown
  obtain ⟨A1, c1, rfl⟩ := hr.slice
  have Hr := Lib.hid hr
  have hs := hb.size
  clear hown hr
  go_wp2_with fail
  go_ret
  refine ⟨w1.heap.size, rfl, hs, ⟨by simp, _, blk_new _ _, ?_⟩, hb.alloc hs _⟩
  exact Bytes.keep (RowAt.mono Hr.out fun b hlt h => ⟨h, by omega⟩) (box_below _ _)

def endOf (xs : List UInt8) (er : Int) : Int := if er = 0 then (if xs.length = 0 then 0 else 11) else er
theorem rend_any (S : Nat → Prop) (g : Nat) (xs : List UInt8) (er : Int) (w : World) (h : RdAt 143 S w g xs er) :
    Calls Try.prog 59 #[.pointer (some ⟨g, 0, none⟩)] w fun e w' => e = .returned (.int .i64 (endOf xs er)) ∧ Below w.heap.size w w' := by
  obtain ⟨hB, v, hblk, hby⟩ := h
  obtain ⟨c0, c1, f0, f1⟩ := cells2 hblk
  obtain ⟨A, c, rfl⟩ := hby.slice
  clear hblk hby
  by_cases he : er = 0
  · subst he
    by_cases hx : xs.length = 0
    · have e : endOf xs 0 = 0 := by simp [endOf, hx]
      rw [e]
      rw [hx] at c0
      go_enter Try.func59, Try.ntmps59
      go_wp2
      go_ret
      exact ⟨rfl, Below.refl _ _⟩
    · have e : endOf xs 0 = 11 := by simp [endOf, hx]
      rw [e]
      have hx2 : 0 < xs.length := by omega
      go_enter Try.func59, Try.ntmps59
      go_wp2
      go_ret
      exact ⟨rfl, Below.refl _ _⟩
  · have e : endOf xs er = er := by simp [endOf, he]
    rw [e]
    have hb : (er == 0) = false := by simpa using he
    clear e he
    go_enter Try.func59, Try.ntmps59
    go_wp2
    go_ret
    exact ⟨rfl, Below.refl _ _⟩
end Go.Proofs.Ytoaoldhajpbenaa

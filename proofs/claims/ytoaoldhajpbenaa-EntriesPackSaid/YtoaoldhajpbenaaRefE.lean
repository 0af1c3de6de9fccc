/- The reference's reader. No statement is proved here. -/
import Derived.Test.YtoaoldhajpbenaaRefD
namespace Go.Proofs.Ytoaoldhajpbenaa
open Go.RowKit

theorem rof_any (S : Nat → Prop) (v : Value) (xs : List UInt8) (w : World) (hv : Bytes S w v xs) (h47 : xs.length ≤ 140737488355328) :
    Calls Try.prog 60 #[v] w fun e w' => ∃ g, e = .returned (.pointer (some ⟨g, 0, none⟩)) ∧ w.heap.size ≤ g ∧ RdAt 133 (fun b => w.heap.size ≤ b ∧ b ≠ g) w' g xs 0 ∧ Below w.heap.size w w' := by
  have Hv := Lib.hid (hv.keep (box_below w (.cells #[.slice none 0 0, .int .i64 0] 133)))
  have hblk := blk_new w (.cells #[.slice none 0 0, .int .i64 0] 133)
  have Hblk := Lib.hid hblk
  have HL := Lib.hid h47
  obtain ⟨A, c, rfl⟩ := hv.slice
  clear hv h47 hblk
  go_enter Try.func60, Try.ntmps60
  go_wp2_with (at_builtin; refine wpList_append_bytes _ rfl _ _ rfl _ _ rfl rfl (w.heap.size + 1) 0 [] (World.ownsRow_nil _ _ _ _) xs Hv.out (by have := HL.out; omega) (by simp) ?_; intro v1 w1 hown hgr _; have hb := (box_below w (.cells #[.slice none 0 0, .int .i64 0] 133)).grown hgr (by simp) (own_blk_ge (World.ownsRow_nil w w.heap.size 5 1)); have hblk1 := blk_keep (below_of_grown hgr) Hblk.out; obtain ⟨d0, d1, e0, e1⟩ := cells2 hblk1; have Hblk1 := Lib.hid hblk1; have Hown := Lib.hid hown; clear hown hgr hblk1; obtain ⟨A1, c1', rfl⟩ := (RowAt.of_own Hown.out).slice)
  go_ret
  refine ⟨w.heap.size, rfl, Nat.le_refl _, ⟨by simp, _, blk_put Hblk1.out _, ?_⟩, hb.setCell (by simp) _⟩
  have h := Hown.out
  rw [Nat.zero_add, List.nil_append] at h
  have h2 : Bytes (fun b => w.heap.size ≤ b ∧ b ≠ w.heap.size) w1 _ xs := RowAt.mono (RowAt.of_own h) fun b hlt hb => ⟨by omega, by omega⟩
  have h3 := h2.keepS ((Same.refl _ w1).setCell (p := ⟨w.heap.size, 0, none⟩) (by simp) (.slice A1 (0 + xs.length) c1'))
  simpa using h3

theorem rrnum_err (S : Nat → Prop) (g : Nat) (xs : List UInt8) (er : Int) (size : Int) (w : World) (h : RdAt 133 S w g xs er) (he : er ≠ 0) :
    Calls Try.prog 78 #[.pointer (some ⟨g, 0, none⟩), .int .i64 size] w fun e w' => e = .returned (.int .i64 0) ∧ w = w' := by
  obtain ⟨hB, v, hblk, hby⟩ := h
  obtain ⟨c0, c1, f0, f1⟩ := cells2 hblk
  have hb : (er != 0) = true := by simpa using he
  clear hblk hby he
  go_enter Try.func78, Try.ntmps78
  go_wp2_with fail
  go_ret
  exact ⟨rfl, rfl⟩

theorem rrnum_short (S : Nat → Prop) (g : Nat) (xs : List UInt8) (size : Nat) (w : World) (h : RdAt 133 S w g xs 0) (h1 : 1 ≤ size) (h8 : size ≤ 8) (hx : xs.length < size) :
    Calls Try.prog 78 #[.pointer (some ⟨g, 0, none⟩), .int .i64 size] w fun e w' => e = .returned (.int .i64 0) ∧ RdAt 133 S w' g xs 10 ∧ w.grownBy w' (some g) := by
  obtain ⟨hB, v, hblk, hby⟩ := h
  obtain ⟨c0, c1, f0, f1⟩ := cells2 hblk
  have Hby := Lib.hid hby
  obtain ⟨A, c, rfl⟩ := hby.slice
  have Hblk := Lib.hid hblk
  clear hby hblk
  have s1 : 1 ≤ (size : Int) := by omega
  have s8 : (size : Int) ≤ 8 := by omega
  have sx : (xs.length : Int) < size := by omega
  go_enter Try.func78, Try.ntmps78
  go_wp2_with fail
  go_ret
  exact ⟨rfl, ⟨hB, _, blk_put1 Hblk.out _, Hby.out.keepS ((Same.refl _ _).setCell hB _)⟩, grown_set (grown_refl _ _) _ _⟩

theorem rrnum_ok (S : Nat → Prop) (g : Nat) (xs : List UInt8) (size : Nat) (w : World) (h : RdAt 133 S w g xs 0) (h1 : 1 ≤ size) (h8 : size ≤ 7) (hx : size ≤ xs.length) :
    Calls Try.prog 78 #[.pointer (some ⟨g, 0, none⟩), .int .i64 size] w fun e w' => e = .returned (.int .i64 (beVal (xs.take size))) ∧ RdAt 133 S w' g (xs.drop size) 0 ∧ w.grownBy w' (some g) := by
  obtain ⟨hB, v, hblk, hby⟩ := h
  obtain ⟨c0, c1, f0, f1⟩ := cells2 hblk
  have hg := rget_yes v xs 0 size w hby h1 (by omega) (by omega)
  obtain ⟨a1, n1, k1, hb1, hn1, hr1⟩ := bytes_l hby (size : Int) (by omega) (by omega)
  have r1 := fun w0 => hr1 w0 .i64
  rw [Int.toNat_natCast] at hb1
  have Hb1 := Lib.hid hb1
  obtain ⟨A, c, rfl⟩ := hby.slice
  rw [List.drop_zero] at hg
  have Hg := Lib.hid hg
  have Hblk := Lib.hid hblk
  have hbl := beVal_lt (xs.take size)
  have hkk : (xs.take size).length = size := by simp; omega
  rw [hkk] at hbl
  have hpw : 256 ^ size ≤ 256 ^ 7 := Nat.pow_le_pow_right (by omega) (by omega)
  have hm : beVal (xs.take size) < 72057594037927936 := Nat.lt_of_lt_of_le hbl hpw
  clear hby hblk hg hbl hkk hpw hb1 hr1 hn1
  generalize beVal (xs.take size) = m at *
  have s1 : 1 ≤ (size : Int) := by omega
  have s8 : (size : Int) ≤ 8 := by omega
  have s9 : (size : Int) ≤ xs.length := by omega
  obtain ⟨M, hM⟩ : ∃ M : Int, M = m := ⟨_, rfl⟩
  have m1 : 0 ≤ M := by omega
  have m2 : M < 72057594037927936 := by omega
  rw [← hM] at Hg
  rw [← hM]
  clear hM hm
  go_enter Try.func78, Try.ntmps78
  go_wp2_with (go_at_call 77; refine Hg.out.mono ?_; rintro _ _ ⟨rfl, rfl⟩)
  go_ret
  exact ⟨rfl, ⟨hB, _, blk_put Hblk.out _, Hb1.out.keepS ((Same.refl _ _).setCell hB _)⟩, grown_set (grown_refl _ _) _ _⟩

theorem rrbytes_err (S : Nat → Prop) (g : Nat) (xs : List UInt8) (er : Int) (size : Int) (w : World) (h : RdAt 133 S w g xs er) (he : er ≠ 0) :
    Calls Try.prog 80 #[.pointer (some ⟨g, 0, none⟩), .int .i64 size] w fun e w' => e = .returned (.slice none 0 0) ∧ w = w' := by
  obtain ⟨hB, v, hblk, hby⟩ := h
  obtain ⟨c0, c1, f0, f1⟩ := cells2 hblk
  have hb : (er != 0) = true := by simpa using he
  clear hblk hby he
  go_enter Try.func80, Try.ntmps80
  go_wp2_with fail
  go_ret
  exact ⟨rfl, rfl⟩

theorem rrbytes_no (S : Nat → Prop) (g : Nat) (xs : List UInt8) (size : Nat) (w : World) (h : RdAt 133 S w g xs 0) (hs : size = 1 ∨ size = 2 ∨ size = 4) (he : (cutOf size xs).2.2 ≠ 0) (h47 : xs.length ≤ 140737488355328) :
    Calls Try.prog 80 #[.pointer (some ⟨g, 0, none⟩), .int .i64 size] w fun e w' => e = .returned (.slice none 0 0) ∧ RdAt 133 S w' g xs (cutOf size xs).2.2 ∧ w.grownBy w' (some g) := by
  obtain ⟨hB, v, hblk, hby⟩ := h
  obtain ⟨c0, c1, f0, f1⟩ := cells2 hblk
  have hcut := rcut_any S v xs size w hby hs h47
  have Hcut := Lib.hid hcut
  have Hblk := Lib.hid hblk
  have Hby := Lib.hid hby
  have he2 : ((cutOf size xs).2.2 != 0) = true := by simpa using he
  have He := Lib.hid he
  obtain ⟨A, c, rfl⟩ := hby.slice
  clear hby hblk hcut he
  generalize (cutOf size xs).2.2 = er at *
  go_enter Try.func80, Try.ntmps80
  go_wp2_with fail
  refine Hcut.out.mono ?_
  rintro _ w1 ⟨u, r, rfl, -, -, hr, hb⟩
  obtain rfl := hr He.out
  have hblk1 := blk_keep hb Hblk.out
  obtain ⟨d0, d1, e0, e1⟩ := cells2 hblk1
  have Hblk1 := Lib.hid hblk1
  clear hblk1 hr
  go_wp2_with fail
  go_ret
  exact ⟨rfl, ⟨hB, _, blk_put1 Hblk1.out _, ((Hby.out.keep hb).keepS ((Same.refl _ _).setCell hB _))⟩, grown_set (grown_of_below hb _) _ _⟩

theorem rrbytes_ok (S : Nat → Prop) (g : Nat) (xs : List UInt8) (size : Nat) (w : World) (h : RdAt 133 S w g xs 0) (hS : ∀ b, w.heap.size ≤ b → S b) (hs : size = 1 ∨ size = 2 ∨ size = 4) (he : (cutOf size xs).2.2 = 0) (h47 : xs.length ≤ 140737488355328) :
    Calls Try.prog 80 #[.pointer (some ⟨g, 0, none⟩), .int .i64 size] w fun e w' => ∃ u, e = .returned u ∧ w'.ownsRow w.heap.size 5 1 u (cutOf size xs).1.length (byteCells (cutOf size xs).1) ∧ RdAt 133 S w' g (xs.drop (cutOf size xs).2.1) 0 ∧ w.grownBy w' (some g) := by
  obtain ⟨hB, v, hblk, hby⟩ := h
  obtain ⟨c0, c1, f0, f1⟩ := cells2 hblk
  have hgs := block_lt c0
  have hcut := rcut_any S v xs size w hby hs h47
  rw [he] at hcut
  have Hcut := Lib.hid hcut
  have Hblk := Lib.hid hblk
  obtain ⟨A, c, rfl⟩ := hby.slice
  clear hby hblk hcut he hs
  generalize xs.drop (cutOf size xs).2.1 = rs at *
  generalize (cutOf size xs).1 = p at *
  go_enter Try.func80, Try.ntmps80
  go_wp2_with fail
  refine Hcut.out.mono ?_
  rintro _ w1 ⟨u, r, rfl, hown, hr, -, hb1⟩
  have hr := hr (by trivial)
  have hblk1 := blk_keep hb1 Hblk.out
  obtain ⟨d0, d1, e0, e1⟩ := cells2 hblk1
  have Hblk1 := Lib.hid hblk1
  have Hown := Lib.hid hown
  have Hr := Lib.hid hr
  obtain ⟨A1, cc, rfl⟩ := (RowAt.of_own hown).slice
  obtain ⟨A2, cc2, rfl⟩ := (RowAt.of_own hr).slice
  clear hblk1 hown hr
  go_wp2_with fail
  go_ret
  refine ⟨_, rfl, own_far Hown.out hgs _, ⟨hB, _, blk_put Hblk1.out _, ?_⟩, grown_set (grown_of_below hb1 _) _ _⟩
  exact Bytes.keepS (RowAt.mono (RowAt.of_own Hr.out) fun b _ h => hS b h) ((Same.refl _ _).setCell hB _)

theorem rrend_any (S : Nat → Prop) (g : Nat) (xs : List UInt8) (er : Int) (w : World) (h : RdAt 133 S w g xs er) :
    Calls Try.prog 62 #[.pointer (some ⟨g, 0, none⟩)] w fun e w' => e = .returned (.int .i64 (endOf xs er)) ∧ Below w.heap.size w w' := by
  obtain ⟨hB, v, hblk, hby⟩ := h
  obtain ⟨c0, c1, f0, f1⟩ := cells2 hblk
  obtain ⟨A, c, rfl⟩ := hby.slice
  clear hblk hby
  by_cases he : er = 0
  · subst he
    by_cases hx : xs.length = 0
    · have e : endOf xs 0 = 0 := by simp [endOf, hx]
      rw [e]
      rw [hx] at c0
      go_enter Try.func62, Try.ntmps62
      go_wp2
      go_ret
      exact ⟨rfl, Below.refl _ _⟩
    · have e : endOf xs 0 = 11 := by simp [endOf, hx]
      rw [e]
      have hx2 : 0 < xs.length := by omega
      go_enter Try.func62, Try.ntmps62
      go_wp2
      go_ret
      exact ⟨rfl, Below.refl _ _⟩
  · have e : endOf xs er = er := by simp [endOf, he]
    rw [e]
    have hb : (er == 0) = false := by simpa using he
    clear e he
    go_enter Try.func62, Try.ntmps62
    go_wp2
    go_ret
    exact ⟨rfl, Below.refl _ _⟩
end Go.Proofs.Ytoaoldhajpbenaa

/- The reference of package field: what its functions do. No statement is proved here. -/
import Derived.Test.YtoaoldhajpbenaaFldE
import Derived.Test.YtoaoldhajpbenaaFldR
import Derived.Test.YtoaoldhajpbenaaFldC
namespace Go.Proofs.Ytoaoldhajpbenaa
open Go.RowKit

/-- A store into a row of the call's own. -/
theorem own_store {w : World} {base g n cap i : Nat} {e : TypeId} {xs : List Value} (h : w.ownsRow base e 1 (.slice (some ⟨g, 0, none⟩) n cap) n xs) (hi : i < n) (u : Value) :
    (w.setCell ⟨g, i, none⟩ u).ownsRow base e 1 (.slice (some ⟨g, 0, none⟩) n cap) n (xs.set i u) := by
  obtain ⟨h1, h2⟩ := h
  refine ⟨by simpa using h1, ?_⟩
  rcases h2 with ⟨h2, h3⟩ | ⟨g', cap', cur, hv, hb, hh, hn, hc, hs, ht⟩
  · cases h2
  · injection hv with hv1 hv2 hv3
    injection hv1 with hv1
    injection hv1 with hv1
    subst hv1 hv3
    refine .inr ⟨g, cap, cur.setIfInBounds i u, rfl, hb, ?_, hn, hc, by simpa using hs, ?_⟩
    · simp [World.setCell, Array.getElem?_modify, hh]
    · rw [Array.toList_setIfInBounds, List.take_set, ht]
theorem own_cell {w : World} {base g n cap i : Nat} {e : TypeId} {xs : List Value} {u : Value} (h : w.ownsRow base e 1 (.slice (some ⟨g, 0, none⟩) n cap) n xs) (hu : xs[i]? = some u) :
    w.cell? ⟨g, i, none⟩ = some u ∧ w.frozen? ⟨g, i, none⟩ = false := by
  obtain ⟨h1, h2⟩ := h
  rcases h2 with ⟨h2, h3⟩ | ⟨g', cap', cur, hv, hb, hh, hn, hc, hs, ht⟩
  · cases h2
  · injection hv with hv1 hv2 hv3
    injection hv1 with hv1
    injection hv1 with hv1
    subst hv1 hv3
    have hi : i < n * 1 := by rw [← h1]; exact (List.getElem?_eq_some_iff.1 hu).1
    rw [← ht, List.getElem?_take, if_pos hi] at hu
    constructor
    · simp [World.cell?, hh]
      simpa using hu
    · simp [World.frozen?, hh]

theorem cell_one (w : World) (x : Value) (t : TypeId) : ∀ j u, ([x] : List Value)[j]? = some u → (w.alloc (.cells #[x] t)).cell? ((⟨w.heap.size, 0, none⟩ : Addr).add j) = some u := by
  intro j u hu
  rw [add_plain, Nat.zero_add, cell_of_row _ _ _ _ _ _ (blk_new w _)]
  simpa using hu
theorem set2 {α : Type} (l : List α) (h : l.length = 2) (a b : α) : (l.set 0 a).set 1 b = [a, b] := by
  match l, h with
  | [_, _], _ => rfl
theorem set4 {α : Type} (l : List α) (h : l.length = 4) (a b c d : α) : (((l.set 0 a).set 1 b).set 2 c).set 3 d = [a, b, c, d] := by
  match l, h with
  | [_, _, _, _], _ => rfl

set_option maxHeartbeats 1000000 in
theorem rfits_any (n : Nat) (size : Int) (w : World) (hn : n < 18446744073709551616) (h1 : 1 ≤ size) (h2 : size ≤ 8) :
    Calls Try.prog 107 #[.int .u64 n, .int .i64 size] w fun e w' => e = .returned (.bool (fitsB n size)) ∧ w = w' := by
  have hs : size = 1 ∨ size = 2 ∨ size = 3 ∨ size = 4 ∨ size = 5 ∨ size = 6 ∨ size = 7 ∨ size = 8 := by omega
  rcases hs with rfl | rfl | rfl | rfl | rfl | rfl | rfl | rfl
  all_goals
    go_enter Try.func107, Try.ntmps107
    go_wp2
    go_ret
    refine ⟨?_, rfl⟩
    simp [fitsB]
  all_goals omega

set_option maxRecDepth 100000 in
set_option maxHeartbeats 2000000 in
theorem rget_yes {S : Nat → Prop} (v : Value) (xs : List UInt8) (at_ size : Nat) (w : World) (hv : Bytes S w v xs) (h1 : 1 ≤ size) (h8 : size ≤ 8) (h2 : at_ + size ≤ xs.length) :
    Calls Try.prog 77 #[v, .int .i64 at_, .int .i64 size] w fun e w' => e = .returned (.tuple #[.int .u64 (beVal ((xs.drop at_).take size)), .int .i64 0]) ∧ w = w' := by
  have hle := hv.le
  unfold maxLen at hle
  have Hv := Lib.hid hv
  obtain ⟨b, o, c, rfl, hn, hc, -, hb, hcell⟩ := hv.form (by omega)
  have Hc := Lib.hid hcell
  unfold maxLen at hc
  clear hv hcell
  have s1 : 1 ≤ (size : Int) := by omega
  have s8 : (size : Int) ≤ 8 := by omega
  have g1 : (at_ : Int) ≤ (xs.length : Int) - size := by omega
  have g0 : 0 ≤ (at_ : Int) := by omega
  go_enter Try.func77, Try.ntmps77
  go_wp2_with fail
  go_loop [8, 9] (fun s8 s9 => ∃ k : Nat, k ≤ size ∧ s9 = .int .i64 k ∧ s8 = .int .u64 (beVal ((xs.drop at_).take k))) (fun _ s9 => size - (intOf s9).toNat)
  case atStart => exact ⟨0, Nat.zero_le _, rfl, rfl⟩
  case round =>
    obtain ⟨k, hk, rfl, rfl⟩ := hrel
    by_cases hlt : k < size
    · have hkl : at_ + k < xs.length := by omega
      have hck : w.cell? ⟨b, o + (at_ + k), none⟩ = some (.int .u8 (xs[at_ + k].toNat)) := Hc.out _ _ (byteCells_get xs _ hkl)
      have hsn : (xs.drop at_).take (k + 1) = (xs.drop at_).take k ++ [xs[at_ + k]] := by
        rw [List.take_succ_eq_append_getElem (by simp; omega)]; simp
      have hbv := beVal_snoc ((xs.drop at_).take k) xs[at_ + k]
      rw [← hsn] at hbv
      have hbl := beVal_lt ((xs.drop at_).take k)
      have hkk : ((xs.drop at_).take k).length = k := by simp; omega
      rw [hkk] at hbl
      have hpw : 256 ^ k ≤ 256 ^ 7 := Nat.pow_le_pow_right (by omega) (by omega)
      have Hbv := Lib.hid hbv
      have hx8 := (xs[at_ + k]).toNat_lt
      have hlt2 : (k : Int) < (size : Int) := by omega
      have hm : beVal ((xs.drop at_).take k) < 72057594037927936 := Nat.lt_of_lt_of_le hbl hpw
      have hix : (at_ : Int) + k < xs.length := by omega
      clear hbv hbl hkk hpw hsn
      generalize beVal ((xs.drop at_).take k) = m at *
      generalize (xs[at_ + k]).toNat = cx at *
      go_wp2_with fail
      rw [or_byte m cx hm hx8]
      go_round
      case rel => exact ⟨k + 1, hlt, by go_num, by rw [Hbv.out]⟩
      case measure => simp [intOf]; omega
    · obtain rfl : k = size := by omega
      go_wp2_with fail
      go_ret2
      exact ⟨rfl, rfl⟩

set_option maxRecDepth 100000 in
set_option maxHeartbeats 2000000 in
theorem rput_at2 {S : Nat → Prop} (A : Option Addr) (c : Nat) (zs : List UInt8) (n : Int) (w : World) (hv : Bytes S w (.slice A 2 c) zs) (hz : zs.length = 2) (h0 : 0 ≤ n) (hn : n < 65536) :
    Calls Try.prog 108 #[.slice A 2 c, .int .i64 0, .int .i64 2, .int .u64 n] w fun e w' => ∃ v, e = .returned (.tuple #[v, .int .i64 0]) ∧ w'.ownsRow w.heap.size 5 1 v 2 (byteCells (be 2 n.toNat)) ∧ Below w.heap.size w w' := by
  have hf : ∀ W, Calls Try.prog 107 #[.int .u64 n, .int .i64 2] W fun e w' => e = .returned (.bool true) ∧ W = w' := by
    intro W
    obtain ⟨N, rfl⟩ : ∃ N : Nat, n = N := ⟨n.toNat, by omega⟩
    refine (rfits_any N 2 W (by omega) (by decide) (by decide)).mono ?_
    rintro _ _ ⟨rfl, rfl⟩
    exact ⟨by simp [fitsB]; omega, rfl⟩
  have hbe : byteCells (be 2 n.toNat) = [.int .u8 (n / 256), .int .u8 (n % 256)] := by
    obtain ⟨N, rfl⟩ : ∃ N : Nat, n = N := ⟨n.toNat, by omega⟩
    rw [Int.toNat_natCast, ← be_drop N 2 (by omega)]
    have e : byteCells ((be 8 N).drop (8 - 2)) = (byteCells (be 8 N)).drop (8 - 2) := by simp [byteCells]
    rw [e, ← num8_be N (by omega)]
    show ([.int .u8 ((N : Int) / 256 % 256), .int .u8 ((N : Int) % 256)] : List Value) = _
    rw [show ((N : Int) / 256 % 256) = (N : Int) / 256 by omega]
  have Hbe := Lib.hid hbe
  have Hf := Lib.hid hf
  have Hv := Lib.hid hv
  have Hz := Lib.hid hz
  clear hf hv hz hbe
  go_enter Try.func108, Try.ntmps108
  go_wp2_with (first | (go_at_call 107; refine (Hf.out _).mono ?_; rintro _ _ ⟨rfl, rfl⟩) | (at_builtin; refine wpList_append_bytes _ rfl _ _ rfl _ _ rfl rfl w.heap.size 0 [] (World.ownsRow_nil _ _ _ _) zs Hv.out ?h7 ?hB ?_))
  case h7 => have := Hz.out; omega
  case hB => exact Nat.le_refl _
  intro v1 w1 hown hgr _
  have hb := (Below.refl w.heap.size w).grown hgr (Nat.le_refl _) (by intro k hk; simp [Value.ownBlock] at hk)
  rw [Hz.out] at hown
  obtain ⟨g, cap, rfl⟩ : ∃ g cap, v1 = .slice (some ⟨g, 0, none⟩) 2 cap := by
    rcases hown.2 with ⟨h, h'⟩ | ⟨g, cap, cur, h, _⟩
    · omega
    · exact ⟨g, cap, h⟩
  have hgB : w.heap.size ≤ g := own_blk_ge hown g rfl
  have hlen : (byteCells zs).length = 2 := by rw [byteCells_length]; exact Hz.out
  have Hown := Lib.hid hown
  obtain ⟨⟨a0, b0⟩, ⟨a1, b1⟩⟩ : (w1.cell? ⟨g, 0, none⟩ = some ((byteCells zs)[0]'(by omega)) ∧ w1.frozen? ⟨g, 0, none⟩ = false) ∧ (w1.cell? ⟨g, 1, none⟩ = some ((byteCells zs)[1]'(by omega)) ∧ w1.frozen? ⟨g, 1, none⟩ = false) := ⟨own_cell hown (List.getElem?_eq_getElem _), own_cell hown (List.getElem?_eq_getElem _)⟩
  generalize (byteCells zs)[0]'_ = x0 at a0
  generalize (byteCells zs)[1]'_ = x1 at a1
  have Hlen := Lib.hid hlen
  clear hown hgr hlen
  go_wp2_with fail
  go_rounds 3
  go_ret2
  refine ⟨_, rfl, ?_, ((hb.setCell hgB _).setCell hgB _)⟩
  have h := own_store (own_store (Hown.out) (i := 0) (by omega) (.int .u8 (n / 256))) (i := 1) (by omega) (.int .u8 (n % 256))
  rw [set2 _ Hlen.out, ← Hbe.out] at h
  exact h

set_option maxRecDepth 100000 in
set_option maxHeartbeats 2000000 in
theorem rput_at4 {S : Nat → Prop} (A : Option Addr) (c : Nat) (zs : List UInt8) (n : Int) (w : World) (hv : Bytes S w (.slice A 4 c) zs) (hz : zs.length = 4) (h0 : 0 ≤ n) (hn : n < 4294967296) :
    Calls Try.prog 108 #[.slice A 4 c, .int .i64 0, .int .i64 4, .int .u64 n] w fun e w' => ∃ v, e = .returned (.tuple #[v, .int .i64 0]) ∧ w'.ownsRow w.heap.size 5 1 v 4 (byteCells (be 4 n.toNat)) ∧ Below w.heap.size w w' := by
  have hf : ∀ W, Calls Try.prog 107 #[.int .u64 n, .int .i64 4] W fun e w' => e = .returned (.bool true) ∧ W = w' := by
    intro W
    obtain ⟨N, rfl⟩ : ∃ N : Nat, n = N := ⟨n.toNat, by omega⟩
    refine (rfits_any N 4 W (by omega) (by decide) (by decide)).mono ?_
    rintro _ _ ⟨rfl, rfl⟩
    exact ⟨by simp [fitsB]; omega, rfl⟩
  have hbe : byteCells (be 4 n.toNat) = [.int .u8 (n / 16777216), .int .u8 (n / 65536 % 256), .int .u8 (n / 256 % 256), .int .u8 (n % 256)] := by
    obtain ⟨N, rfl⟩ : ∃ N : Nat, n = N := ⟨n.toNat, by omega⟩
    rw [Int.toNat_natCast, ← be_drop N 4 (by omega)]
    have e : byteCells ((be 8 N).drop (8 - 4)) = (byteCells (be 8 N)).drop (8 - 4) := by simp [byteCells]
    rw [e, ← num8_be N (by omega)]
    show ([.int .u8 ((N : Int) / 16777216 % 256), .int .u8 ((N : Int) / 65536 % 256), .int .u8 ((N : Int) / 256 % 256), .int .u8 ((N : Int) % 256)] : List Value) = _
    rw [show ((N : Int) / 16777216 % 256) = (N : Int) / 16777216 by omega]
  have Hbe := Lib.hid hbe
  have Hf := Lib.hid hf
  have Hv := Lib.hid hv
  have Hz := Lib.hid hz
  clear hf hv hz hbe
  go_enter Try.func108, Try.ntmps108
  go_wp2_with (first | (go_at_call 107; refine (Hf.out _).mono ?_; rintro _ _ ⟨rfl, rfl⟩) | (at_builtin; refine wpList_append_bytes _ rfl _ _ rfl _ _ rfl rfl w.heap.size 0 [] (World.ownsRow_nil _ _ _ _) zs Hv.out ?h7 ?hB ?_))
  case h7 => have := Hz.out; omega
  case hB => exact Nat.le_refl _
  intro v1 w1 hown hgr _
  have hb := (Below.refl w.heap.size w).grown hgr (Nat.le_refl _) (by intro k hk; simp [Value.ownBlock] at hk)
  rw [Hz.out] at hown
  obtain ⟨g, cap, rfl⟩ : ∃ g cap, v1 = .slice (some ⟨g, 0, none⟩) 4 cap := by
    rcases hown.2 with ⟨h, h'⟩ | ⟨g, cap, cur, h, _⟩
    · omega
    · exact ⟨g, cap, h⟩
  have hgB : w.heap.size ≤ g := own_blk_ge hown g rfl
  have hlen : (byteCells zs).length = 4 := by rw [byteCells_length]; exact Hz.out
  have Hown := Lib.hid hown
  obtain ⟨⟨a0, b0⟩, ⟨a1, b1⟩, ⟨a2, b2⟩, ⟨a3, b3⟩⟩ : (w1.cell? ⟨g, 0, none⟩ = some ((byteCells zs)[0]'(by omega)) ∧ w1.frozen? ⟨g, 0, none⟩ = false) ∧ (w1.cell? ⟨g, 1, none⟩ = some ((byteCells zs)[1]'(by omega)) ∧ w1.frozen? ⟨g, 1, none⟩ = false) ∧ (w1.cell? ⟨g, 2, none⟩ = some ((byteCells zs)[2]'(by omega)) ∧ w1.frozen? ⟨g, 2, none⟩ = false) ∧ (w1.cell? ⟨g, 3, none⟩ = some ((byteCells zs)[3]'(by omega)) ∧ w1.frozen? ⟨g, 3, none⟩ = false) := ⟨own_cell hown (List.getElem?_eq_getElem _), own_cell hown (List.getElem?_eq_getElem _), own_cell hown (List.getElem?_eq_getElem _), own_cell hown (List.getElem?_eq_getElem _)⟩
  generalize (byteCells zs)[0]'_ = x0 at a0
  generalize (byteCells zs)[1]'_ = x1 at a1
  generalize (byteCells zs)[2]'_ = x2 at a2
  generalize (byteCells zs)[3]'_ = x3 at a3
  have Hlen := Lib.hid hlen
  clear hown hgr hlen
  go_wp2_with fail
  go_rounds 5
  go_ret2
  refine ⟨_, rfl, ?_, ((((hb.setCell hgB _).setCell hgB _).setCell hgB _).setCell hgB _)⟩
  have h := own_store (own_store (own_store (own_store (Hown.out) (i := 0) (by omega) (.int .u8 (n / 16777216))) (i := 1) (by omega) (.int .u8 (n / 65536 % 256))) (i := 2) (by omega) (.int .u8 (n / 256 % 256))) (i := 3) (by omega) (.int .u8 (n % 256))
  rw [set4 _ Hlen.out, ← Hbe.out] at h
  exact h
end Go.Proofs.Ytoaoldhajpbenaa

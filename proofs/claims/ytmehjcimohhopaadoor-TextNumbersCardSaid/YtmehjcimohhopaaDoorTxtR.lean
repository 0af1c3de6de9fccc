/- The law of numbers and digits, walked. No statement is proved here. -/
import Derived.Test.YtmehjcimohhopaaDoorTxtQ
namespace Go.Proofs.YtmehjcimohhopaaDoor
open Go.RowKit

theorem numP_in (l : List UInt8) : in64 (numP l).1 := by
  unfold numP
  split
  · rename_i h
    have := h.2.2.2.2
    unfold in64
    constructor <;> simp only <;> omega
  · unfold in64
    constructor <;> simp only <;> omega

set_option maxRecDepth 100000 in
set_option maxHeartbeats 1000000 in
theorem textNumbers_any (s : ByteArray) (n : Int) (w : World) (hs : s.size ≤ 9223372036854775807) (hn : in64 n) (hm : Mx w) : Calls Tryd.prog 3 #[.string s, .int .i64 n] w fun e w' => e = .returned (.bool true) ∧ Below w.heap.size w w' := by
  have Hm := Lib.hid hm
  have HX := Lib.hid (fun W => xnumber_any s W)
  have HY := Lib.hid (fun W => ynumber_any s hs W)
  have hi := numP_in s.data.toList
  obtain ⟨⟨x, e⟩, hxe⟩ : ∃ p, numP s.data.toList = p := ⟨_, rfl⟩
  have hz : e = 0 → (⟨(digP x).toArray⟩ : ByteArray) = s := by
    intro h0
    have := digP_numP s.data.toList (by rw [hxe]; exact h0)
    rw [hxe] at this
    rw [this]
  rw [hxe] at hi
  have hX := fun W => xdigits_any x W hi
  obtain ⟨dx, hdx⟩ : ∃ d, (⟨(digP x).toArray⟩ : ByteArray) = d := ⟨_, rfl⟩
  rw [hdx] at hX hz
  have HDX := Lib.hid hX
  have hD := fun W => xdigits_any n W hn
  have hE := fun W => ydigits_any n W hn
  have hd1 : (n < 0 ∨ 16777215 < n) → (⟨(digP n).toArray⟩ : ByteArray).toList = [] := by
    intro h
    rw [ByteArray.toList_eq]
    unfold digP
    rw [if_pos h]
  have hd2 : ¬ (n < 0 ∨ 16777215 < n) → (⟨(digP n).toArray⟩ : ByteArray).toList.isEmpty = false ∧ numP (⟨(digP n).toArray⟩ : ByteArray).data.toList = (n, 0) := by
    intro h
    have := numP_digP n (by omega) (by omega)
    rw [ByteArray.toList_eq]
    exact ⟨by cases hq : digP n with
      | nil => exact absurd hq this.2
      | cons a l => rfl, this.1⟩
  have hN := fun (h : ¬ (n < 0 ∨ 16777215 < n)) W => (hd2 h).2 ▸ xnumber_any (⟨(digP n).toArray⟩ : ByteArray) W
  have hd3 := fun h => (hd2 h).1
  clear hd2
  obtain ⟨d, hd⟩ : ∃ d, (⟨(digP n).toArray⟩ : ByteArray) = d := ⟨_, rfl⟩
  rw [hxe] at HX HY
  rw [hd] at hD hE hd1 hd3 hN
  have HD := Lib.hid hD
  have HE := Lib.hid hE
  have HN := Lib.hid hN
  have HB := Lib.hid (Below.refl w.heap.size w)
  clear hm hxe hd hD hE hN hX hdx hi
  by_cases h0 : e = 0
  · obtain rfl := h0
    obtain rfl := hz rfl
    clear hz
    by_cases hr : n < 0 ∨ 16777215 < n
    · have ht := hd1 hr
      clear hd1 hd3
      go_enter Tryd.func3, Tryd.ntmps3
      go_wp2_with (first
        | (go_at_call_of 9 (Value.string dx); refine (HX.out _).mono ?_; rintro _ W1 ⟨rfl, hb1⟩; have HB := Lib.hid (below_then HB.out hb1); clear hb1)
        | (go_at_call 10; refine (HY.out _).mono ?_; rintro _ W2 ⟨rfl, rfl⟩)
        | (go_at_call_of 11 (Value.int IntKind.i64 n); refine (HD.out _).mono ?_; rintro _ W3 ⟨rfl, hb3⟩; have HB := Lib.hid (below_then HB.out hb3); clear hb3)
        | (go_at_call_of 11 (Value.int IntKind.i64 x); refine (HDX.out _).mono ?_; rintro _ W5 ⟨rfl, hb5⟩; have HB := Lib.hid (below_then HB.out hb5); clear hb5)
        | (go_at_call 12; refine (HE.out _).mono ?_; rintro _ W4 ⟨rfl, hb4⟩; have HB := Lib.hid (below_then HB.out hb4); clear hb4)
        | (go_at_call 13; refine (known_any _ (Hm.out.keep HB.out)).mono ?_; rintro _ W6 ⟨rfl, hb6⟩; have HB := Lib.hid (below_then HB.out hb6); clear hb6))
      all_goals (go_ret; refine ⟨?_, HB.out⟩)
      all_goals first
        | rfl
        | (simp; done)
        | (simp; omega)
        | skip
    · have ht := hd3 hr
      have HN := Lib.hid (HN.out hr)
      clear hd1 hd3
      go_enter Tryd.func3, Tryd.ntmps3
      go_wp2_with (first
        | (go_at_call_of 9 (Value.string dx); refine (HX.out _).mono ?_; rintro _ W1 ⟨rfl, hb1⟩; have HB := Lib.hid (below_then HB.out hb1); clear hb1)
        | (go_at_call_of 9 (Value.string d); refine (HN.out _).mono ?_; rintro _ W7 ⟨rfl, hb7⟩; have HB := Lib.hid (below_then HB.out hb7); clear hb7)
        | (go_at_call 10; refine (HY.out _).mono ?_; rintro _ W2 ⟨rfl, rfl⟩)
        | (go_at_call_of 11 (Value.int IntKind.i64 n); refine (HD.out _).mono ?_; rintro _ W3 ⟨rfl, hb3⟩; have HB := Lib.hid (below_then HB.out hb3); clear hb3)
        | (go_at_call_of 11 (Value.int IntKind.i64 x); refine (HDX.out _).mono ?_; rintro _ W5 ⟨rfl, hb5⟩; have HB := Lib.hid (below_then HB.out hb5); clear hb5)
        | (go_at_call 12; refine (HE.out _).mono ?_; rintro _ W4 ⟨rfl, hb4⟩; have HB := Lib.hid (below_then HB.out hb4); clear hb4)
        | (go_at_call 13; refine (known_any _ (Hm.out.keep HB.out)).mono ?_; rintro _ W6 ⟨rfl, hb6⟩; have HB := Lib.hid (below_then HB.out hb6); clear hb6))
      all_goals (go_ret; refine ⟨?_, HB.out⟩)
      all_goals first
        | rfl
        | (simp; done)
        | (simp; omega)
        | skip
  · clear hz
    by_cases hr : n < 0 ∨ 16777215 < n
    · have ht := hd1 hr
      clear hd1 hd3
      go_enter Tryd.func3, Tryd.ntmps3
      go_wp2_with (first
        | (go_at_call_of 9 (Value.string s); refine (HX.out _).mono ?_; rintro _ W1 ⟨rfl, hb1⟩; have HB := Lib.hid (below_then HB.out hb1); clear hb1)
        | (go_at_call 10; refine (HY.out _).mono ?_; rintro _ W2 ⟨rfl, rfl⟩)
        | (go_at_call_of 11 (Value.int IntKind.i64 n); refine (HD.out _).mono ?_; rintro _ W3 ⟨rfl, hb3⟩; have HB := Lib.hid (below_then HB.out hb3); clear hb3)
        | (go_at_call 12; refine (HE.out _).mono ?_; rintro _ W4 ⟨rfl, hb4⟩; have HB := Lib.hid (below_then HB.out hb4); clear hb4)
        | (go_at_call 13; refine (known_any _ (Hm.out.keep HB.out)).mono ?_; rintro _ W6 ⟨rfl, hb6⟩; have HB := Lib.hid (below_then HB.out hb6); clear hb6))
      all_goals (go_ret; refine ⟨?_, HB.out⟩)
      all_goals first
        | rfl
        | (simp; done)
        | (simp; omega)
        | skip
    · have ht := hd3 hr
      have HN := Lib.hid (HN.out hr)
      clear hd1 hd3
      go_enter Tryd.func3, Tryd.ntmps3
      go_wp2_with (first
        | (go_at_call_of 9 (Value.string s); refine (HX.out _).mono ?_; rintro _ W1 ⟨rfl, hb1⟩; have HB := Lib.hid (below_then HB.out hb1); clear hb1)
        | (go_at_call_of 9 (Value.string d); refine (HN.out _).mono ?_; rintro _ W7 ⟨rfl, hb7⟩; have HB := Lib.hid (below_then HB.out hb7); clear hb7)
        | (go_at_call 10; refine (HY.out _).mono ?_; rintro _ W2 ⟨rfl, rfl⟩)
        | (go_at_call_of 11 (Value.int IntKind.i64 n); refine (HD.out _).mono ?_; rintro _ W3 ⟨rfl, hb3⟩; have HB := Lib.hid (below_then HB.out hb3); clear hb3)
        | (go_at_call 12; refine (HE.out _).mono ?_; rintro _ W4 ⟨rfl, hb4⟩; have HB := Lib.hid (below_then HB.out hb4); clear hb4)
        | (go_at_call 13; refine (known_any _ (Hm.out.keep HB.out)).mono ?_; rintro _ W6 ⟨rfl, hb6⟩; have HB := Lib.hid (below_then HB.out hb6); clear hb6))
      all_goals (go_ret; refine ⟨?_, HB.out⟩)
      all_goals first
        | rfl
        | (simp; done)
        | (simp; omega)
        | skip
end Go.Proofs.YtmehjcimohhopaaDoor

/- What a key's and a value's characters may be: walked, the program's and the reference's. No statement is proved here. -/
import Derived.Test.YtmehjcimohhopaaDoorTxpA
import Derived.Test.YtmehjcimohhopaaDoorTxtSh
import Derived.Deep.DeepCutAuto
import Derived.Deep.CutBlock
namespace Go.Proofs.YtmehjcimohhopaaDoor
open Go.RowKit

theorem inVal_told : Told 68 inValI := by
  refine ⟨fun args w => by kernel_rfl, fun c w h0 h1 => ?_⟩
  by_cases h : 32 ≤ c ∧ c ≤ 126
  · have e : inValI c = true := by unfold inValI; simpa using h
    rw [e]
    obtain ⟨h2, h3⟩ := h
    clear e
    go_enter Tryd.func68, Tryd.ntmps68
    go_wp2_with fail
    go_ret
    exact ⟨rfl, Below.refl _ _⟩
  · have e : inValI c = false := by unfold inValI; simpa using h
    rw [e]
    clear e
    by_cases h2 : c < 32
    · clear h
      go_enter Tryd.func68, Tryd.ntmps68
      go_wp2_with fail
      go_ret
      exact ⟨rfl, Below.refl _ _⟩
    · have h3 : 126 < c := by omega
      clear h
      go_enter Tryd.func68, Tryd.ntmps68
      go_wp2_with fail
      go_ret
      exact ⟨by simp; omega, Below.refl _ _⟩
theorem inVal_high (c : Int) (h : 128 ≤ c) : inValI c = false := by simp [inValI]; omega
theorem inKey_high (c : Int) (h : 128 ≤ c) : inKeyI c = false := by simp [inKeyI]; omega
theorem index_key : ∀ n : Fin 128, decide (0 ≤ Lib.indexByte [46, 45, 43, 64, 95] n.val.toUInt8) = decide ((n.val : Int) = 46 ∨ (n.val : Int) = 45 ∨ (n.val : Int) = 43 ∨ (n.val : Int) = 64 ∨ (n.val : Int) = 95) := by decide
theorem index_keyI (c : Int) (h0 : 0 ≤ c) (h1 : c < 128) : decide (0 ≤ Lib.indexByte [46, 45, 43, 64, 95] c.toNat.toUInt8) = decide (c = 46 ∨ c = 45 ∨ c = 43 ∨ c = 64 ∨ c = 95) := by
  have := index_key ⟨c.toNat, by omega⟩
  have e : ((c.toNat : Nat) : Int) = c := by omega
  simp only [e] at this
  exact this
set_option maxRecDepth 100000 in
theorem inKey_told : Told 67 inKeyI := by
  refine ⟨fun args w => by kernel_rfl, fun c w h0 h1 => ?_⟩
  have hd := digit_told.2 c w h0 h1
  by_cases hlt : c < 128
  · have hi := Tryd.strings_IndexByte ⟨#[46, 45, 43, 64, 95]⟩ c
    have hx := index_keyI c h0 hlt
    have e : inKeyI c = (digitI c || (decide (97 ≤ c) && decide (c ≤ 122)) || (decide (65 ≤ c) && decide (c ≤ 90)) || decide (0 ≤ Lib.indexByte [46, 45, 43, 64, 95] c.toNat.toUInt8)) := by
      rw [hx]
      unfold inKeyI digitI
      rw [Bool.eq_iff_iff]
      simp
    rw [e]
    obtain ⟨m, hm⟩ : ∃ m, Lib.indexByte [46, 45, 43, 64, 95] c.toNat.toUInt8 = m := ⟨_, rfl⟩
    obtain ⟨q, hq⟩ : ∃ q, digitI c = q := ⟨_, rfl⟩
    have hi' : ∀ W, Calls Tryd.prog 78 #[.string ⟨#[46, 45, 43, 64, 95]⟩, .int .u8 c] W fun e w' => e = .returned (.int .i64 m) ∧ W = w' := fun W => (hi W).mono fun e w' ⟨he, hw⟩ => ⟨by rw [he, ← hm], hw.symm⟩
    rw [hm]
    rw [hq] at hd ⊢
    have HD := Lib.hid hd
    have HI := Lib.hid hi'
    clear hd hi hi' hx e hm hq
    cases q with
    | true =>
      go_enter Tryd.func67, Tryd.ntmps67
      go_wp2_with (go_at_call 32; refine HD.out.mono ?_; rintro _ w1 ⟨rfl, hb1⟩; have HB := Lib.hid hb1; clear hb1)
      go_ret
      exact ⟨by simp, HB.out⟩
    | false =>
      by_cases h2 : 97 ≤ c ∧ c ≤ 122
      · obtain ⟨h2, h3⟩ := h2
        go_enter Tryd.func67, Tryd.ntmps67
        go_wp2_with (go_at_call 32; refine HD.out.mono ?_; rintro _ w1 ⟨rfl, hb1⟩; have HB := Lib.hid hb1; clear hb1)
        go_ret
        exact ⟨by simp [h2, h3], HB.out⟩
      · have h2' : ¬ (97 ≤ c) ∨ ¬ (c ≤ 122) := by omega
        by_cases h4 : 65 ≤ c ∧ c ≤ 90
        · obtain ⟨h4, h5⟩ := h4
          have h6 : ¬ 97 ≤ c := by omega
          clear h2 h2'
          go_enter Tryd.func67, Tryd.ntmps67
          go_wp2_with (go_at_call 32; refine HD.out.mono ?_; rintro _ w1 ⟨rfl, hb1⟩; have HB := Lib.hid hb1; clear hb1)
          go_ret
          exact ⟨by simp [h4, h5], HB.out⟩
        · have hr : (false || (decide (97 ≤ c) && decide (c ≤ 122)) || (decide (65 ≤ c) && decide (c ≤ 90)) || decide (0 ≤ m)) = decide (0 ≤ m) := by
            rw [Bool.eq_iff_iff]; simp; omega
          rw [hr]
          clear hr
          by_cases ha : 97 ≤ c
          · have hb : ¬ c ≤ 122 := by omega
            have hc : ¬ c ≤ 90 := by omega
            clear h2 h2' h4
            go_enter Tryd.func67, Tryd.ntmps67
            go_wp2_with (first
              | (go_at_call 32; refine HD.out.mono ?_; rintro _ w1 ⟨rfl, hb1⟩; have HB := Lib.hid hb1; clear hb1)
              | (go_at_call 78; refine (HI.out _).mono ?_; rintro _ w2 ⟨rfl, rfl⟩))
            go_ret
            exact ⟨by simp; omega, HB.out⟩
          · by_cases hb : 65 ≤ c
            · have hc : ¬ c ≤ 90 := by omega
              clear h2 h2' h4
              go_enter Tryd.func67, Tryd.ntmps67
              go_wp2_with (first
                | (go_at_call 32; refine HD.out.mono ?_; rintro _ w1 ⟨rfl, hb1⟩; have HB := Lib.hid hb1; clear hb1)
                | (go_at_call 78; refine (HI.out _).mono ?_; rintro _ w2 ⟨rfl, rfl⟩))
              go_ret
              exact ⟨by simp; omega, HB.out⟩
            · clear h2 h2' h4
              go_enter Tryd.func67, Tryd.ntmps67
              go_wp2_with (first
                | (go_at_call 32; refine HD.out.mono ?_; rintro _ w1 ⟨rfl, hb1⟩; have HB := Lib.hid hb1; clear hb1)
                | (go_at_call 78; refine (HI.out _).mono ?_; rintro _ w2 ⟨rfl, rfl⟩))
              go_ret
              exact ⟨rfl, HB.out⟩
  · rw [inKey_high c (by omega)]
    rw [digitI_high c (by omega)] at hd
    have HD := Lib.hid hd
    have ha : ¬ c ≤ 122 := by omega
    have hb : ¬ c ≤ 90 := by omega
    have hc : 97 ≤ c := by omega
    have hc2 : 65 ≤ c := by omega
    clear hd
    go_enter Tryd.func67, Tryd.ntmps67
    go_wp2_with (go_at_call 32; refine HD.out.mono ?_; rintro _ w1 ⟨rfl, hb1⟩; have HB := Lib.hid hb1; clear hb1)
    go_ret
    exact ⟨by simp [ha, hb], HB.out⟩
set_option maxRecDepth 100000 in
theorem xright_any (p : Pr) (w : World) : Calls Tryd.prog 37 #[.agg #[.string p.1, .string p.2]] w fun e w' => e = .returned (.bool (pairOK p)) ∧ Below w.heap.size w w' := by
  obtain ⟨k, v⟩ := p
  have hK : ∀ W, Calls Tryd.prog 31 #[.string k, .int .i64 1, .int .i64 63, .func (.func 67) #[] #[]] W fun e w' => e = .returned (.bool (keyOK k)) ∧ Below W.heap.size W w' := fun W => of_any 67 inKeyI inKey_told inKey_high k 1 63 W
  have hV : ∀ W, Calls Tryd.prog 31 #[.string v, .int .i64 0, .int .i64 255, .func (.func 68) #[] #[]] W fun e w' => e = .returned (.bool (valOK v)) ∧ Below W.heap.size W w' := fun W => of_any 68 inValI inVal_told inVal_high v 0 255 W
  obtain ⟨a, ha⟩ : ∃ a, keyOK k = a := ⟨_, rfl⟩
  obtain ⟨b, hb⟩ : ∃ b, valOK v = b := ⟨_, rfl⟩
  unfold pairOK
  simp only
  rw [ha] at hK ⊢
  rw [hb] at hV ⊢
  have HK := Lib.hid hK
  have HV := Lib.hid hV
  have hbx := box_below w (.cells #[.string k, .string v] 46)
  have hx := blk_new w (.cells #[.string k, .string v] 46)
  have HX := Lib.hid hx
  have HB := Lib.hid hbx
  clear hK hV ha hb hbx hx
  cases a with
  | false =>
    go_enter Tryd.func37, Tryd.ntmps37
    go_wp2_with (go_at_call 31; refine (HK.out _).mono ?_; rintro _ w1 ⟨rfl, hb1⟩; have HB := Lib.hid (below_then HB.out hb1); clear hb1)
    go_ret
    exact ⟨rfl, HB.out⟩
  | true =>
    go_enter Tryd.func37, Tryd.ntmps37
    go_wp2_with (first
      | (go_at_call_of 31 (Value.string k); refine (HK.out _).mono ?_; rintro _ w1 ⟨rfl, hb1⟩; obtain ⟨c0, c1, -, -⟩ := cells2 (blk_keep hb1 HX.out); have HB := Lib.hid (below_then HB.out hb1); clear hb1)
      | (go_at_call_of 31 (Value.string v); refine (HV.out _).mono ?_; rintro _ w2 ⟨rfl, hb2⟩; have HB := Lib.hid (below_then HB.out hb2); clear hb2))
    go_ret
    exact ⟨rfl, HB.out⟩
end Go.Proofs.YtmehjcimohhopaaDoor

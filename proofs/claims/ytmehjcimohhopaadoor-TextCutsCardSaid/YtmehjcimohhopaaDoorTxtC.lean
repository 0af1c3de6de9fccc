/- Digits read as a number: both sides. No statement is proved here. -/
import Derived.Test.YtmehjcimohhopaaDoorTxtB
namespace Go.Proofs.YtmehjcimohhopaaDoor
open Go.RowKit

theorem digitI_isDig (c : UInt8) : digitI (c.toNat : Int) = isDig c := by
  unfold digitI isDig
  rw [show decide (48 ≤ (c.toNat : Int)) = decide (48 ≤ c.toNat) from decide_eq_decide.2 (by omega), show decide ((c.toNat : Int) ≤ 57) = decide (c.toNat ≤ 57) from decide_eq_decide.2 (by omega)]
theorem allB_digit (l : List UInt8) : allB digitI l = l.all isDig := by
  unfold allB
  congr 1
  funext c
  exact digitI_isDig c
theorem digitI_high (c : Int) (h : 128 ≤ c) : digitI c = false := by simp [digitI]; omega
theorem numFold_lt : ∀ l : List UInt8, l.all isDig = true → numFold l < 10 ^ l.length := by
  refine list_snoc (fun _ => by decide) ?_
  intro l c ih ha
  rw [List.all_append, Bool.and_eq_true] at ha
  have hc : isDig c = true := by simpa using ha.2
  unfold isDig at hc
  simp only [Bool.and_eq_true, decide_eq_true_eq] at hc
  have := ih ha.1
  rw [numFold_snoc, List.length_append, List.length_singleton, Nat.pow_succ]
  omega
theorem toList_data (s : ByteArray) : s.toList = s.data.toList := ByteArray.toList_eq s
theorem head_at (s : ByteArray) (h : 0 < s.size) : s.data.toList.headD 0 = s[0] := by
  rw [List.headD_eq_head?_getD, List.head?_eq_getElem?, List.getElem?_eq_getElem (by simpa using h)]
  rfl
theorem numP_no {l : List UInt8} (h : ¬ (1 ≤ l.length ∧ l.length ≤ 8 ∧ l.all isDig = true ∧ (l = [48] ∨ l.headD 0 ≠ 48) ∧ numFold l ≤ 16777215)) : numP l = (0, 11) := by unfold numP; rw [if_neg h]
theorem numFold_take (s : ByteArray) (k : Nat) (h : k < s.size) : numFold (s.data.toList.take (k + 1)) = 10 * numFold (s.data.toList.take k) + (s[k].toNat - 48) := by
  have e : s.data.toList[k]'(by simpa using h) = s[k] := rfl
  rw [List.take_succ_eq_append_getElem (by simpa using h), numFold_snoc, e]
theorem all_take {p : UInt8 → Bool} (l : List UInt8) (k : Nat) (h : l.all p = true) : (l.take k).all p = true := by
  rw [List.all_eq_true] at *
  exact fun x hx => h x (List.mem_of_mem_take hx)
theorem all_at (s : ByteArray) (k : Nat) (h : k < s.size) (ha : s.data.toList.all isDig = true) : 48 ≤ s[k].toNat ∧ s[k].toNat ≤ 57 := by
  have := List.all_eq_true.1 ha s[k] (by show s.data[k] ∈ s.data.toList; simp)
  unfold isDig at this
  simpa using this

set_option maxRecDepth 100000 in
set_option maxHeartbeats 2000000 in
theorem xnumber_any (s : ByteArray) (w : World) :
    Calls Tryd.prog 9 #[.string s] w fun e w' => e = .returned (.tuple #[.int .i64 (numP s.data.toList).1, .int .i64 (numP s.data.toList).2]) ∧ Below w.heap.size w w' := by
  have ho := of_any 32 digitI digit_told digitI_high s 1 8 w
  rw [allB_digit] at ho
  have hlen : s.data.toList.length = s.size := by simp
  by_cases h : 1 ≤ s.size ∧ s.size ≤ 8 ∧ s.data.toList.all isDig = true
  · obtain ⟨h1, h2, h3⟩ := h
    rw [show (decide (1 ≤ (s.size : Int)) && decide ((s.size : Int) ≤ 8) && s.data.toList.all isDig) = true by simp [h3]; omega] at ho
    have Ho := Lib.hid ho
    clear ho
    have h0 : 0 < s.size := by omega
    have hhd := head_at s h0
    by_cases hbad : s.toList ≠ [48] ∧ s[0].toNat = 48
    · obtain ⟨hz, h48⟩ := hbad
      have e : numP s.data.toList = (0, 11) := numP_no (by
        rintro ⟨-, -, -, hh, -⟩
        rcases hh with hh | hh
        · exact hz (by rw [toList_data]; exact hh)
        · rw [hhd] at hh
          exact hh (UInt8.toNat_inj.1 h48))
      rw [e]
      have h48' : ((s[0].toNat : Int) == 48) = true := by simp [h48]
      have hz' : (s.toList == [48]) = false := by simpa using hz
      clear e hhd h3 h48 hz
      go_enter Tryd.func9, Tryd.ntmps9
      go_wp2_with fail
      refine Ho.out.mono ?_
      rintro _ W1 ⟨rfl, hb1⟩
      go_wp2_with fail
      go_ret2
      exact ⟨rfl, hb1⟩
    · have hok : s.data.toList = [48] ∨ s.data.toList.headD 0 ≠ 48 := by
        by_cases hz : s.toList = [48]
        · left; rw [← toList_data]; exact hz
        · right
          intro hh
          rw [hhd] at hh
          exact hbad ⟨hz, by rw [hh]; rfl⟩
      have HOK := Lib.hid (And.intro h3 (And.intro hok hlen))
      have hcond : (!(s.toList == [48]) && ((s[0].toNat : Int) == 48)) = false := by
        by_cases hz : s.toList = [48]
        · rw [hz]; simp
        · have : ¬ s[0].toNat = 48 := fun h => hbad ⟨hz, h⟩
          have : ((s[0].toNat : Int) == 48) = false := by simp; omega
          rw [this]; simp
      clear hok hbad hhd h3
      by_cases hz : s.toList = [48]
      all_goals
        go_enter Tryd.func9, Tryd.ntmps9
        go_wp2_with fail
        refine Ho.out.mono ?_
        rintro _ W1 ⟨rfl, hb1⟩
        go_wp2_with fail
        go_loopw [4] (fun n wr => ∃ (k : Nat) (N : Int), k ≤ s.size ∧ n = .int .i64 N ∧ Hid (N = numFold (s.data.toList.take k)) ∧ 0 ≤ N ∧ N < 100000000 ∧ wr.heap[W1.heap.size]? = some (.stringIter s k) ∧ Below w.heap.size w wr) (fun _ wr => s.size - wr.iterPos W1.heap.size)
        case atStart =>
          exact ⟨0, 0, Nat.zero_le _, rfl, Lib.hid rfl, by omega, by omega, World.iter_heap W1 s 0, hb1.alloc hb1.size _⟩
        case round =>
          obtain ⟨k, N, hk, rfl, HNk, hN0, hN1, hit, hbw⟩ := hrel
          have hsz : W1.heap.size < wr.heap.size := (Array.getElem?_eq_some_iff.1 hit).1
          by_cases hp : k < s.size
          · have hd := all_at s k hp HOK.out.1
            have hnx : ∀ ty, (Instr.next (.pointer (some ⟨W1.heap.size, 0, none⟩)) true ty).run Tryd.prog wr = _ := fun ty => Lib.run_next_ascii_at wr W1.heap.size s k ty hit hp (by omega)
            have hit2 := Lib.iterAt_heap wr W1.heap.size s k (k + 1) hit
            have hbw2 := Lib.below_iterAt hbw (k := W1.heap.size) hb1.size s (k + 1)
            have hf := numFold_take s k hp
            have hlt := numFold_lt (s.data.toList.take (k + 1)) (all_take _ _ HOK.out.1)
            have hle : (10 : Nat) ^ (s.data.toList.take (k + 1)).length ≤ 10 ^ 8 := Nat.pow_le_pow_right (by decide) (by rw [List.length_take]; omega)
            obtain ⟨d, hdd⟩ : ∃ d : Int, d = ((s[k]'hp).toNat : Int) := ⟨_, rfl⟩
            have hN2 : 10 * N + (d - 48) < 100000000 := by have := HNk.out; omega
            have HF := Lib.hid (And.intro hf (And.intro hdd hd))
            rw [← hdd] at hnx
            have hd0 : 48 ≤ d := by omega
            have hd1 : d ≤ 57 := by omega
            have Hit := Lib.hid (And.intro hit (And.intro hit2 hbw2))
            clear hf hlt hle hdd hd hit2 hbw2
            go_wp2_with fail
            go_roundw
            case rel => exact ⟨k + 1, 10 * N + (d - 48), hp, by go_num, Lib.hid (by have := HNk.out; have := HF.out; omega), by omega, by omega, Hit.out.2.1, Hit.out.2.2⟩
            case measure =>
              simp only [World.iterPos, Hit.out.2.1, Hit.out.1]
              omega
          · obtain rfl : k = s.size := by omega
            have hnx : ∀ ty, (Instr.next (.pointer (some ⟨W1.heap.size, 0, none⟩)) true ty).run Tryd.prog wr = _ := fun ty => Lib.run_next_end_at wr W1.heap.size s s.size ty hit hp
            have hNe := HNk.out
            rw [List.take_of_length_le (by rw [HOK.out.2.2]; exact Nat.le_refl _)] at hNe
            have HNe := Lib.hid hNe
            have Hbw := Lib.hid hbw
            clear hNe hbw hit
            by_cases hbig : N > 16777215
            · go_wp2_with fail
              go_ret2
              refine ⟨?_, Hbw.out⟩
              rw [numP_no (by rintro ⟨-, -, -, -, hh⟩; have := HNe.out; omega)]
              rfl
            · go_wp2_with fail
              go_ret2
              refine ⟨?_, Hbw.out⟩
              have e : numP s.data.toList = ((numFold s.data.toList : Int), 0) := by
                unfold numP
                rw [if_pos ⟨by rw [HOK.out.2.2]; omega, by rw [HOK.out.2.2]; omega, HOK.out.1, HOK.out.2.1, by have := HNe.out; omega⟩]
              rw [e, ← HNe.out]
              rfl
  · have e : numP s.data.toList = (0, 11) := numP_no (by rw [hlen]; intro hh; exact h ⟨hh.1, hh.2.1, hh.2.2.1⟩)
    have hf : (decide (1 ≤ (s.size : Int)) && decide ((s.size : Int) ≤ 8) && s.data.toList.all isDig) = false := by
      cases hb : (decide (1 ≤ (s.size : Int)) && decide ((s.size : Int) ≤ 8) && s.data.toList.all isDig) with
      | false => rfl
      | true =>
        exfalso
        simp only [Bool.and_eq_true, decide_eq_true_eq] at hb
        exact h ⟨by omega, by omega, hb.2⟩
    rw [hf] at ho
    rw [e]
    have Ho := Lib.hid ho
    clear ho hf e h
    go_enter Tryd.func9, Tryd.ntmps9
    go_wp2_with fail
    refine Ho.out.mono ?_
    rintro _ W1 ⟨rfl, hb1⟩
    go_wp2_with fail
    go_ret2
    exact ⟨rfl, hb1⟩

set_option maxRecDepth 100000 in
set_option maxHeartbeats 2000000 in
theorem ynumber_any (s : ByteArray) (hs : s.size ≤ 9223372036854775807) (w : World) :
    Calls Tryd.prog 10 #[.string s] w fun e w' => e = .returned (.tuple #[.int .i64 (numP s.data.toList).1, .int .i64 (numP s.data.toList).2]) ∧ w = w' := by
  have hlen : s.data.toList.length = s.size := by simp
  have Hlen := Lib.hid hlen
  clear hlen
  go_enter Tryd.func10, Tryd.ntmps10
  go_wp2_with fail
  go_loop [4, 5] (fun n i => ∃ (k : Nat) (N : Int), k ≤ s.size ∧ k ≤ 9 ∧ i = .int .i64 k ∧ n = .int .i64 N ∧ Hid (N = numFold (s.data.toList.take k) ∧ (s.data.toList.take k).all isDig = true) ∧ 0 ≤ N ∧ N < 1000000000) (fun _ i => s.size - (intOf i).toNat)
  case atStart => exact ⟨0, 0, Nat.zero_le _, Nat.zero_le _, rfl, rfl, Lib.hid ⟨rfl, rfl⟩, by omega, by omega⟩
  case round =>
    obtain ⟨k, N, hk, hk9, rfl, rfl, HNk, hN0, hN1⟩ := hrel
    by_cases hp : k < s.size
    · have hp2 : (k : Int) < s.size := by omega
      by_cases hk8 : k < 9
      · have hk82 : (k : Int) < 9 := by omega
        have hi : ((k : Int).toNat) = k := by omega
        by_cases hd : isDig (s[k]'hp) = true
        · have hd2 := hd
          unfold isDig at hd2
          simp only [Bool.and_eq_true, decide_eq_true_eq] at hd2
          have hf := numFold_take s k hp
          have hat : (s.data.toList.take (k + 1)).all isDig = true := by
            have e : s.data.toList[k]'(by simpa using hp) = s[k] := rfl
            rw [List.take_succ_eq_append_getElem (by simpa using hp), List.all_append, HNk.out.2, e]
            simpa using hd
          have hlt := numFold_lt _ hat
          have hle : (10 : Nat) ^ (s.data.toList.take (k + 1)).length ≤ 10 ^ 9 := Nat.pow_le_pow_right (by decide) (by rw [List.length_take]; omega)
          have HF := Lib.hid (And.intro hf (And.intro hat (And.intro hlt hle)))
          obtain ⟨d0, d1⟩ := hd2
          have d2 : ¬ (((s[k]'hp).toNat : Int) < 48) := by omega
          have d3 : ¬ (((s[k]'hp).toNat : Int) > 57) := by omega
          have hN2 : 10 * N + (((s[k]'hp).toNat : Int) - 48) < 1000000000 := by have := HNk.out.1; omega
          clear hf hat hlt hle hd
          go_wp2_with fail
          go_round
          case rel => exact ⟨k + 1, 10 * N + (((s[k]'hp).toNat : Int) - 48), hp, hk8, by go_num, by go_num, Lib.hid ⟨by have := HNk.out.1; have := HF.out.1; omega, HF.out.2.1⟩, by omega, by omega⟩
          case measure => simp [intOf]; omega
        · have e : numP s.data.toList = (0, 11) := numP_no (by
            rintro ⟨-, -, hh, -, -⟩
            have := all_at s k hp hh
            unfold isDig at hd
            simp at hd
            omega)
          have HE0 := Lib.hid e
          have hd2 : ((s[k]'hp).toNat : Int) < 48 ∨ 57 < ((s[k]'hp).toNat : Int) := by
            unfold isDig at hd
            simp at hd
            omega
          clear hd e
          rcases hd2 with hd2 | hd2
          · go_wp2_with fail
            go_ret2
            exact ⟨by rw [HE0.out]; rfl, rfl⟩
          · have hd3 : ¬ ((s[k]'hp).toNat : Int) < 48 := by omega
            go_wp2_with fail
            go_ret2
            exact ⟨by rw [HE0.out]; rfl, rfl⟩
      · have hk82 : ¬ ((k : Int) < 9) := by omega
        have e : numP s.data.toList = (0, 11) := numP_no (by rintro ⟨-, hh, -⟩; rw [Hlen.out] at hh; omega)
        have HE0 := Lib.hid e
        have hne : ¬ s = ByteArray.empty := by rintro rfl; simp at hp
        have hbig : (8 : Int) < s.size := by omega
        clear e
        go_wp2_with fail
        go_ret2
        exact ⟨by rw [HE0.out]; rfl, rfl⟩
    · obtain rfl : k = s.size := by omega
      have hNe := HNk.out
      rw [List.take_of_length_le (by rw [Hlen.out]; exact Nat.le_refl _)] at hNe
      have HNe := Lib.hid hNe
      clear hNe
      by_cases h0 : s.size = 0
      · have e : numP s.data.toList = (0, 11) := numP_no (by rintro ⟨hh, -⟩; rw [Hlen.out] at hh; omega)
        have HE0 := Lib.hid e
        have h0' : (s.size : Int) = 0 := by omega
        clear e
        go_wp2_with fail
        go_ret2
        exact ⟨by rw [HE0.out]; rfl, rfl⟩
      · have h0' : 0 < s.size := by omega
        have h0i : ¬ (s.size : Int) = 0 := by omega
        have hhd := head_at s h0'
        by_cases h9 : s.size = 9
        · have e : numP s.data.toList = (0, 11) := numP_no (by rintro ⟨-, hh, -⟩; rw [Hlen.out] at hh; omega)
          have HE0 := Lib.hid e
          have hbig : (8 : Int) < s.size := by omega
          clear e
          go_wp2_with fail
          go_ret2
          exact ⟨by rw [HE0.out]; rfl, rfl⟩
        · have h8 : ¬ ((8 : Int) < s.size) := by omega
          by_cases hz : (s[0]'h0').toNat = 48 ∧ 1 < s.size
          · obtain ⟨hz1, hz2⟩ := hz
            have e : numP s.data.toList = (0, 11) := numP_no (by
              rintro ⟨-, -, -, hh, -⟩
              rcases hh with hh | hh
              · have := congrArg List.length hh
                rw [Hlen.out] at this
                simp at this
                omega
              · rw [hhd] at hh
                exact hh (UInt8.toNat_inj.1 hz1))
            have HE0 := Lib.hid e
            have hz1' : (((s[0]'h0').toNat : Int) == 48) = true := by simp [hz1]
            have hz2' : (1 : Int) < s.size := by omega
            clear e hz1
            go_wp2_with fail
            go_ret2
            exact ⟨by rw [HE0.out]; rfl, rfl⟩
          · have hok : s.data.toList = [48] ∨ s.data.toList.headD 0 ≠ 48 := by
              by_cases h1 : s.size = 1
              · by_cases h48 : (s[0]'h0').toNat = 48
                · left
                  have hl1 : s.data.toList.length = 1 := by rw [Hlen.out]; exact h1
                  obtain ⟨x, hx⟩ := List.length_eq_one_iff.1 hl1
                  rw [hx] at hhd ⊢
                  have : x = s[0] := hhd
                  rw [this, UInt8.toNat_inj.1 (show (s[0]'h0').toNat = (48 : UInt8).toNat from h48)]
                · right
                  rw [hhd]
                  intro hh
                  exact h48 (by rw [hh]; rfl)
              · right
                rw [hhd]
                intro hh
                exact hz ⟨by rw [hh]; rfl, by omega⟩
            have HOK := Lib.hid hok
            have hcond : (((s[0]'h0').toNat : Int) == 48 && decide ((1 : Int) < s.size)) = false := by
              by_cases h48 : (s[0]'h0').toNat = 48
              · have : ¬ 1 < s.size := fun h => hz ⟨h48, h⟩
                have : decide ((1 : Int) < s.size) = false := by simp; omega
                rw [this]; simp
              · have : (((s[0]'h0').toNat : Int) == 48) = false := by simp; omega
                rw [this]; rfl
            have e : N ≤ 16777215 → numP s.data.toList = (N, 0) := fun hh => by
              have := HNe.out.1
              unfold numP
              rw [if_pos ⟨by rw [Hlen.out]; omega, by rw [Hlen.out]; omega, HNe.out.2, HOK.out, by omega⟩, ← this]
            have HE := Lib.hid e
            clear hok hz hhd e
            by_cases h48 : (((s[0]'h0').toNat : Int) == 48) = true
            · have h1 : ¬ ((1 : Int) < s.size) := by
                intro hh
                rw [h48] at hcond
                simp at hcond
                omega
              by_cases hbig : N > 16777215
              · go_wp2_with fail
                go_ret2
                refine ⟨?_, rfl⟩
                rw [numP_no (by rintro ⟨-, -, -, -, hh⟩; have := HNe.out.1; omega)]
                rfl
              · go_wp2_with fail
                go_ret2
                refine ⟨?_, rfl⟩
                rw [HE.out (by omega)]
                rfl
            · have h48' : (((s[0]'h0').toNat : Int) == 48) = false := by simpa using h48
              by_cases hbig : N > 16777215
              · go_wp2_with fail
                go_ret2
                refine ⟨?_, rfl⟩
                rw [numP_no (by rintro ⟨-, -, -, -, hh⟩; have := HNe.out.1; omega)]
                rfl
              · go_wp2_with fail
                go_ret2
                refine ⟨?_, rfl⟩
                rw [HE.out (by omega)]
                rfl
end Go.Proofs.YtmehjcimohhopaaDoor

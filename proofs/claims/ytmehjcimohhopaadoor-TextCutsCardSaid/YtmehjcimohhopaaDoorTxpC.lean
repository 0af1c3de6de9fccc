/- What a key and a value can be: the reference's, walked. No statement is proved here. -/
import Derived.Test.YtmehjcimohhopaaDoorTxpB
namespace Go.Proofs.YtmehjcimohhopaaDoor
open Go.RowKit

theorem allB_end (pr : Int → Bool) (s : ByteArray) (h : allB pr (s.data.toList.take s.size) = true) : allB pr s.data.toList = true := by
  rwa [List.take_of_length_le (by simp)] at h
set_option maxRecDepth 100000 in
set_option maxHeartbeats 1000000 in
theorem ykey_any (s : ByteArray) (hs : s.size ≤ 9223372036854775807) (w : World) : Calls Tryd.prog 40 #[.string s] w fun e w' => e = .returned (.bool (keyOK s)) ∧ w = w' := by
  unfold keyOK
  go_enter Tryd.func40, Tryd.ntmps40
  go_wp2_with fail
  go_loop [3] (fun i => ∃ k : Nat, k ≤ s.size ∧ i = .int .i64 k ∧ Hid (allB inKeyI (s.data.toList.take k) = true)) (fun i => s.size - (intOf i).toNat)
  case atStart => exact ⟨0, Nat.zero_le _, rfl, Lib.hid rfl⟩
  case round =>
    obtain ⟨k, hk, rfl, HA⟩ := hrel
    by_cases hp : k < s.size
    · have hp3 : (k : Int) < s.size := by omega
      have hT := allB_take inKeyI s k hp
      have hF := allB_no inKeyI s k hp
      obtain ⟨q, hq⟩ : ∃ q, inKeyI (s[k].toNat : Int) = q := ⟨_, rfl⟩
      rw [hq] at hT hF
      have HQ := Lib.hid hq
      have HT := Lib.hid hT
      have HF := Lib.hid hF
      clear hT hF hq
      go_upto_region 5 with fail
      go_cut [4, 56] (fun _ s56 wx => s56 = .bool (!q) ∧ wx = w)
      case first =>
        go_wp2_with fail
        all_goals
          go_meet
          refine ⟨?_, rfl⟩
          rw [← HQ.out]
          unfold inKeyI
          congr 1
          rw [Bool.eq_iff_iff]
          first
            | (simp; done)
            | (simp; omega)
      case rest =>
        obtain ⟨rfl, rfl⟩ := hcut
        cases q with
        | true =>
          have HT2 := Lib.hid (HT.out rfl HA.out)
          clear HT
          go_wp2_with fail
          go_round
          case rel => exact ⟨k + 1, hp, by go_num, HT2⟩
          case measure => simp [intOf]; omega
        | false =>
          have HF2 := Lib.hid (HF.out rfl)
          clear HF
          go_wp2_with fail
          go_ret
          exact ⟨by rw [HF2.out]; simp, rfl⟩
    · obtain rfl : k = s.size := by omega
      have HE := Lib.hid (allB_end inKeyI s HA.out)
      go_wp2_with fail
      all_goals
        go_ret
        exact ⟨by rw [HE.out]; first | (simp; done) | (simp; omega), rfl⟩
set_option maxRecDepth 100000 in
set_option maxHeartbeats 1000000 in
theorem yval_any (s : ByteArray) (hs : s.size ≤ 9223372036854775807) (w : World) : Calls Tryd.prog 41 #[.string s] w fun e w' => e = .returned (.bool (valOK s)) ∧ w = w' := by
  unfold valOK
  go_enter Tryd.func41, Tryd.ntmps41
  go_wp2_with fail
  go_loop [3] (fun i => ∃ k : Nat, k ≤ s.size ∧ i = .int .i64 k ∧ Hid (allB inValI (s.data.toList.take k) = true)) (fun i => s.size - (intOf i).toNat)
  case atStart => exact ⟨0, Nat.zero_le _, rfl, Lib.hid rfl⟩
  case round =>
    obtain ⟨k, hk, rfl, HA⟩ := hrel
    by_cases hp : k < s.size
    · have hp3 : (k : Int) < s.size := by omega
      have hT := allB_take inValI s k hp
      have hF := allB_no inValI s k hp
      by_cases hlo : (s[k].toNat : Int) < 32
      · have HF := Lib.hid (hF (by unfold inValI; simp; omega))
        clear hT hF
        go_wp2_with fail
        go_ret
        exact ⟨by rw [HF.out]; simp, rfl⟩
      · by_cases hhi : 126 < (s[k].toNat : Int)
        · have HF := Lib.hid (hF (by unfold inValI; simp; omega))
          clear hT hF
          go_wp2_with fail
          go_ret
          exact ⟨by rw [HF.out]; simp, rfl⟩
        · have HT := Lib.hid (hT (by unfold inValI; simp; omega) HA.out)
          clear hT hF
          go_wp2_with fail
          go_round
          case rel => exact ⟨k + 1, hp, by go_num, HT⟩
          case measure => simp [intOf]; omega
    · obtain rfl : k = s.size := by omega
      have HE := Lib.hid (allB_end inValI s HA.out)
      go_wp2_with fail
      go_ret
      exact ⟨by rw [HE.out]; simp, rfl⟩
end Go.Proofs.YtmehjcimohhopaaDoor

/- The reference's small functions on texts: the lesser, Yes and No, a list's words. No statement is proved here. -/
import Derived.Test.YtmehjcimohhopaaDoorTxtU
namespace Go.Proofs.YtmehjcimohhopaaDoor
open Go.RowKit

theorem ylesser_lt (a b : Int) (w : World) (h : a < b) : Calls Tryd.prog 36 #[.int .i64 a, .int .i64 b] w fun e w' => e = .returned (.int .i64 a) ∧ w = w' := by
  go_enter Tryd.func36, Tryd.ntmps36
  go_wp2_with fail
  go_ret
  exact ⟨rfl, rfl⟩
theorem ylesser_ge (a b : Int) (w : World) (h : ¬ a < b) : Calls Tryd.prog 36 #[.int .i64 a, .int .i64 b] w fun e w' => e = .returned (.int .i64 b) ∧ w = w' := by
  go_enter Tryd.func36, Tryd.ntmps36
  go_wp2_with fail
  go_ret
  exact ⟨rfl, rfl⟩
theorem yyes_any (x : Bool) (w : World) : Calls Tryd.prog 77 #[.bool x] w fun e w' => e = .returned (.string (flagS x)) ∧ w = w' := by
  cases x <;>
  · go_enter Tryd.func77, Tryd.ntmps77
    go_wp2_with fail
    go_ret
    exact ⟨rfl, rfl⟩

theorem indexByte_hit : ∀ (l : List UInt8) (i : Nat), i < l.length → (∀ j : Nat, j < i → l[j]? ≠ some 44) → l[i]? = some 44 → Lib.indexByte l 44 = i
  | b :: l, 0, _, _, h => by
    have : b = 44 := by simpa using h
    subst this
    rfl
  | b :: l, i + 1, hi, hn, h => by
    have h0 : ¬ b = 44 := by simpa using hn 0 (by omega)
    have ih := indexByte_hit l i (by simpa using hi) (fun j hj => by simpa using hn (j + 1) (by omega)) (by simpa using h)
    unfold Lib.indexByte
    rw [if_neg (by simpa using h0), ih, if_neg (by first | (simp; done) | (simp; omega))]
    rfl
theorem indexByte_miss : ∀ (l : List UInt8), (∀ j : Nat, l[j]? ≠ some 44) → Lib.indexByte l 44 = -1
  | [], _ => rfl
  | b :: l, hn => by
    have h0 : ¬ b = 44 := by simpa using hn 0
    have ih := indexByte_miss l (fun j => by simpa using hn (j + 1))
    unfold Lib.indexByte
    rw [if_neg (by simpa using h0), ih]
    rfl
theorem words_hit (s : ByteArray) (i : Nat) (hi : i < s.size) (hn : ∀ j : Nat, j < i → s.data.toList[j]? ≠ some 44) (h : s.data.toList[i]? = some 44) : wordsB s = s.extract 0 i :: wordsB (s.extract (i + 1) s.size) := by
  have hx : Lib.indexB s comma = i := by
    rw [Lib.one s comma rfl]
    exact indexByte_hit _ i (by simpa using hi) hn h
  unfold wordsB
  rw [Lib.countB_hit s comma i (by decide) hx, Nat.add_comm, Lib.splitB_hit comma 0 _ s i hx]
  rfl
theorem words_miss (s : ByteArray) (hn : ∀ j : Nat, s.data.toList[j]? ≠ some 44) : wordsB s = [s] := by
  have hx : Lib.indexB s comma = -1 := by
    rw [Lib.one s comma rfl]
    exact indexByte_miss _ hn
  unfold wordsB
  exact Lib.splitB_miss comma 0 _ s hx
theorem ext_at (s : ByteArray) (a j : Nat) : (s.extract a s.size).data.toList[j]? = s.data.toList[a + j]? := by
  rw [show (s.extract a s.size).data.toList = s.data.toList.drop a by rw [ByteArray.data_extract]; simp [Array.toList_extract]; exact List.take_of_length_le (by simp)]
  rw [List.getElem?_drop]
/-- The words from 'at' on, where a comma stands at i and none between. -/
theorem words_next (s : ByteArray) (a i : Nat) (ha : a ≤ i) (hi : i < s.size) (hn : ∀ j : Nat, a ≤ j → j < i → s.data.toList[j]? ≠ some 44) (h : s.data.toList[i]? = some 44) :
    wordsB (s.extract a s.size) = s.extract a i :: wordsB (s.extract (i + 1) s.size) := by
  have hz : (s.extract a s.size).size = s.size - a := by simp
  rw [words_hit (s.extract a s.size) (i - a) (by omega) (fun j hj => by rw [ext_at]; exact hn _ (by omega) (by omega)) (by rw [ext_at, show a + (i - a) = i by omega]; exact h)]
  rw [hz]
  congr 1
  · rw [ByteArray.extract_extract]; congr 1 <;> omega
  · rw [ByteArray.extract_extract]; congr 2 <;> omega
theorem words_last (s : ByteArray) (a : Nat) (hn : ∀ j : Nat, a ≤ j → s.data.toList[j]? ≠ some 44) : wordsB (s.extract a s.size) = [s.extract a s.size] :=
  words_miss _ (fun j => by rw [ext_at]; exact hn _ (by omega))

theorem infoStr : (Tryd.prog.info? 9).map (fun i => (i.zero, i.size, i.bytes)) = some (some (.string ⟨#[]⟩), 1, 16) := by kernel_rfl
/-- Where the walk over a list stands: words ws ahead of place a, no comma from a to i. -/
def WdAt (v : ByteArray) (ws : List ByteArray) (a i : Nat) : Prop :=
  ws.length ≤ i ∧ ((i ≤ v.size ∧ a ≤ i ∧ wordsB v = ws ++ wordsB (v.extract a v.size) ∧ ∀ j, a ≤ j → j < i → v.data.toList[j]? ≠ some 44) ∨ (i = v.size + 1 ∧ wordsB v = ws))
theorem wd_start (v : ByteArray) : WdAt v [] 0 0 :=
  ⟨Nat.le_refl _, .inl ⟨Nat.zero_le _, Nat.le_refl _, by rw [List.nil_append, show v.extract 0 v.size = v from ByteArray.extract_zero_size], fun j _ h => by omega⟩⟩
theorem wd_comma {v : ByteArray} {ws : List ByteArray} {a i : Nat} (h : WdAt v ws a i) (hi : i < v.size) (hc : v.data.toList[i]? = some 44) : a ≤ i ∧ WdAt v (ws ++ [v.extract a i]) (i + 1) (i + 1) := by
  obtain ⟨hl, ⟨h1, h2, h3, h4⟩ | ⟨h1, -⟩⟩ := h
  · refine ⟨h2, by simp; exact hl, .inl ⟨hi, Nat.le_refl _, ?_, fun j _ _ => by omega⟩⟩
    rw [h3, words_next v a i h2 hi h4 hc]
    simp
  · omega
theorem wd_other {v : ByteArray} {ws : List ByteArray} {a i : Nat} (h : WdAt v ws a i) (hi : i < v.size) (hc : v.data.toList[i]? ≠ some 44) : WdAt v ws a (i + 1) := by
  obtain ⟨hl, ⟨h1, h2, h3, h4⟩ | ⟨h1, -⟩⟩ := h
  · refine ⟨by omega, .inl ⟨hi, by omega, h3, fun j hj hji => ?_⟩⟩
    by_cases e : j = i
    · rw [e]; exact hc
    · exact h4 j hj (by omega)
  · omega
theorem wd_last {v : ByteArray} {ws : List ByteArray} {a : Nat} (h : WdAt v ws a v.size) : a ≤ v.size ∧ WdAt v (ws ++ [v.extract a v.size]) (v.size + 1) (v.size + 1) := by
  obtain ⟨hl, ⟨h1, h2, h3, h4⟩ | ⟨h1, -⟩⟩ := h
  · refine ⟨h2, by simp; exact hl, .inr ⟨rfl, ?_⟩⟩
    rw [h3, words_last v a (fun j hj => ?_)]
    by_cases e : j < v.size
    · exact h4 j hj e
    · rw [List.getElem?_eq_none (by simp; omega)]
      simp
  · omega
set_option maxRecDepth 100000 in
set_option maxHeartbeats 1000000 in
theorem ywords_any (v : ByteArray) (w : World) (hs : v.size < 4294967281) :
    Calls Tryd.prog 64 #[.string v] w fun e w' => ∃ u, e = .returned u ∧ RowAt (w.heap.size ≤ ·) w' u (wordsB v).length 1 ((wordsB v).map Value.string) ∧ Below w.heap.size w w' := by
  have hs3 : (v.size : Int) ≤ 9223372036854775806 := by omega
  have Hs := Lib.hid hs
  clear hs
  obtain ⟨i0, hi, hz0, hz1, hz2⟩ := info_parts infoStr
  go_enter Tryd.func64, Tryd.ntmps64
  go_wp2_with fail
  go_loopw [3, 4, 5] (fun o a i wr => ∃ (j k : Nat) (ws : List ByteArray), a = .int .i64 j ∧ i = .int .i64 k ∧ j ≤ k ∧ k ≤ v.size + 1 ∧ Hid (WdAt v ws j k) ∧ Hid (wr.ownsRow w.heap.size 9 1 o ws.length (ws.map Value.string) ∧ Below w.heap.size w wr)) (fun _ _ i _ => v.size + 1 - (intOf i).toNat)
  case atStart => exact ⟨0, 0, [], rfl, rfl, Nat.le_refl _, Nat.zero_le _, Lib.hid (wd_start v), Lib.hid ⟨World.ownsRow_nil _ _ _ _, Below.refl _ _⟩⟩
  case round =>
    obtain ⟨j, k, ws, rfl, rfl, hjk, hk, HW, HO⟩ := hrel
    by_cases hlt : k < v.size
    · have hlt3 : (k : Int) < v.size := by omega
      have hlt4 : ¬ ((k : Int) = v.size) := by omega
      have hb : v.data.toList[k]? = some v[k] := by simp [ByteArray.getElem_eq_getElem_data]
      by_cases hc : (v[k].toNat : Int) = 44
      · have hc2 : v.data.toList[k]? = some 44 := by rw [hb]; congr 1; exact UInt8.toNat_inj.1 (by show _ = 44; omega)
        obtain ⟨-, hN⟩ := wd_comma HW.out hlt hc2
        have HN := Lib.hid hN
        clear hb hc2 hN
        have hone : ∀ u ∈ ([.string (v.extract j k)] : List Value), u.oneCell' = true := by simp [Value.oneCell']
        have Hone := Lib.hid hone
        have Hi := Lib.hid hi
        have Hz := Lib.hid (And.intro hz0 (And.intro hz1 hz2))
        have hwl := HW.out.1
        have h5 := Lib.hid (show ws.length + 1 ≤ maxLen by have := Hs.out; simp [maxLen]; omega)
        have h6 := Lib.hid (show (ws.length + 1) * 16 ≤ 140737488355328 by have := Hs.out; omega)
        clear hone hi hz0 hz1 hz2
        go_wp2_with (at_builtin; refine wpList_append_lies _ rfl (.tmp 22) (.tmp 27) 82 rfl w.heap.size 9 i0 (.string ⟨#[]⟩) 1 16 Tryd.underlying82 Hi.out Hz.out.1 Hz.out.2.1 Hz.out.2.2 rfl (by decide) u3 ws.length (ws.map Value.string) rfl (World.ownsRow.alloc HO.out.1 _) ⟨wr.heap.size, 0, none⟩ 1 1 [.string (v.extract j k)] rfl rfl (World.news_of_block (blk_new _ _)) Hone.out (by decide) h5.out h6.out (by have := HO.out.2.size; simp; omega) _ rfl ?_; intro g3 cap3 w15 hown3 hg3 hat3 hlt3; have HP := Lib.hid (And.intro hown3 hg3); clear hown3 hg3 hat3 hlt3)
        go_wp2_with fail
        go_roundw
        case rel =>
          refine ⟨k + 1, k + 1, ws ++ [v.extract j k], by go_num, by go_num, by omega, by omega, HN, Lib.hid ⟨?_, ?_⟩⟩
          · rw [List.map_append, List.length_append]; exact HP.out.1
          · exact below_push HO.out.2 HO.out.1 (box_below wr _) HP.out.2
        case measure => simp [intOf]; omega
      · have hc2 : v.data.toList[k]? ≠ some 44 := by rw [hb]; intro e; injection e with e; exact hc (by rw [e]; rfl)
        have HN := Lib.hid (wd_other HW.out hlt hc2)
        have hc3 : ((v[k].toNat : Int) == 44) = false := by simpa using hc
        clear hb hc2
        go_wp2_with fail
        go_roundw
        case rel => exact ⟨j, k + 1, ws, rfl, by go_num, by omega, by omega, HN, HO⟩
        case measure => simp [intOf]; omega
    · by_cases hle : k ≤ v.size
      · obtain rfl : k = v.size := by omega
        obtain ⟨-, hN⟩ := wd_last HW.out
        have HN := Lib.hid hN
        clear hN
        have hone : ∀ u ∈ ([.string (v.extract j v.size)] : List Value), u.oneCell' = true := by simp [Value.oneCell']
        have Hone := Lib.hid hone
        have Hi := Lib.hid hi
        have Hz := Lib.hid (And.intro hz0 (And.intro hz1 hz2))
        have hwl := HW.out.1
        have h5 := Lib.hid (show ws.length + 1 ≤ maxLen by have := Hs.out; simp [maxLen]; omega)
        have h6 := Lib.hid (show (ws.length + 1) * 16 ≤ 140737488355328 by have := Hs.out; omega)
        clear hone hi hz0 hz1 hz2
        go_wp2_with (at_builtin; refine wpList_append_lies _ rfl (.tmp 22) (.tmp 27) 82 rfl w.heap.size 9 i0 (.string ⟨#[]⟩) 1 16 Tryd.underlying82 Hi.out Hz.out.1 Hz.out.2.1 Hz.out.2.2 rfl (by decide) u3 ws.length (ws.map Value.string) rfl (World.ownsRow.alloc HO.out.1 _) ⟨wr.heap.size, 0, none⟩ 1 1 [.string (v.extract j v.size)] rfl rfl (World.news_of_block (blk_new _ _)) Hone.out (by decide) h5.out h6.out (by have := HO.out.2.size; simp; omega) _ rfl ?_; intro g3 cap3 w15 hown3 hg3 hat3 hlt3; have HP := Lib.hid (And.intro hown3 hg3); clear hown3 hg3 hat3 hlt3)
        go_wp2_with fail
        go_roundw
        case rel =>
          refine ⟨v.size + 1, v.size + 1, ws ++ [v.extract j v.size], by go_num, by go_num, by omega, by omega, HN, Lib.hid ⟨?_, ?_⟩⟩
          · rw [List.map_append, List.length_append]; exact HP.out.1
          · exact below_push HO.out.2 HO.out.1 (box_below wr _) HP.out.2
        case measure => first | (simp [intOf]; done) | (simp [intOf]; omega)
      · obtain rfl : k = v.size + 1 := by omega
        have hx : wordsB v = ws := by
          obtain ⟨-, ⟨h1, -⟩ | ⟨-, h⟩⟩ := HW.out
          · omega
          · exact h
        have HX := Lib.hid hx
        clear hx
        go_wp2_with fail
        go_ret
        refine ⟨_, rfl, ?_, HO.out.2⟩
        rw [HX.out]
        exact RowAt.of_own HO.out.1
end Go.Proofs.YtmehjcimohhopaaDoor

/- Answers to a value: the program's function values, the rest. No statement is proved here. -/
import Derived.Test.YtmehjcimohhopaaDoorTxtF
namespace Go.Proofs.YtmehjcimohhopaaDoor
open Go.RowKit

theorem hsz_of {w W : World} {o : Obj} (h : w.alloc o = W) : W.heap.size = w.heap.size + 1 := by rw [← h]; simp

set_option maxRecDepth 100000 in
theorem const_any (c : Nat) (s : ByteArray) (n : Int) (ts : TypeId) (w : World) (hc : w.heap[c]? = some (.cells #[.string s] ts (0, 0))) :
    Calls Tryd.prog 48 #[.int .i64 n, .pointer (some ⟨c, 0, none⟩)] w fun e w' => e = .returned (ansV ⟨s, true, true⟩) ∧ Below w.heap.size w w' := by
  have b1 := box_below w (.cells #[.string ⟨#[]⟩, .bool false, .bool false] 65)
  have hZ := blk_new w (.cells #[.string ⟨#[]⟩, .bool false, .bool false] 65)
  have hc1 := blk_keep b1 hc
  obtain ⟨W1, hW1⟩ : ∃ W, w.alloc (.cells #[.string ⟨#[]⟩, .bool false, .bool false] 65) = W := ⟨_, rfl⟩
  rw [hW1] at b1 hZ hc1
  obtain ⟨cc, fc⟩ := cells1 hc1
  have H := Lib.hid (And.intro b1 hZ)
  clear b1 hZ hc1 hc
  go_enter Tryd.func48, Tryd.ntmps48
  go_wp2_with fail
  refine (tell_any _ _).mono ?_
  rintro _ W2 ⟨rfl, hb⟩
  have hr := blk_keep hb H.out.2
  have hb2 := below_then H.out.1 hb
  obtain ⟨r0, r1, r2, f0, f1, f2⟩ := cells3 hr
  have HF := Lib.hid (And.intro hr hb2)
  clear hr hb2 hb
  go_wp2_with fail
  have hZ := set3 HF.out.1 (.string s) (.bool true) (.bool true)
  have hG := below3 HF.out.2 (Nat.le_refl _) (.string s) (.bool true) (.bool true)
  obtain ⟨WF, hWF⟩ : ∃ W, ((W2.setCell ⟨w.heap.size, 0, none⟩ (.string s)).setCell ⟨w.heap.size, 1, none⟩ (.bool true)).setCell ⟨w.heap.size, 2, none⟩ (.bool true) = W := ⟨_, rfl⟩
  rw [hWF] at hZ hG ⊢
  obtain ⟨z0, z1, z2, -, -, -⟩ := cells3 hZ
  exact bodyPost_ret (v := .agg #[.string s, .bool true, .bool true]) (by simp [results, Tryd.results48, go_sem, z0, z1, z2]) rfl ⟨rfl, hG⟩
set_option maxRecDepth 100000 in
theorem wait_any (n : Int) (w : World) (hin : in64 n) :
    Calls Tryd.prog 59 #[.int .i64 n] w fun e w' => e = .returned (ansV ⟨⟨(digP (if n < 2 then 2 else n)).toArray⟩, true, true⟩) ∧ Below w.heap.size w w' := by
  have b1 := box_below w (.cells #[.string ⟨#[]⟩, .bool false, .bool false] 65)
  have hZ := blk_new w (.cells #[.string ⟨#[]⟩, .bool false, .bool false] 65)
  obtain ⟨W1, hW1⟩ : ∃ W, w.alloc (.cells #[.string ⟨#[]⟩, .bool false, .bool false] 65) = W := ⟨_, rfl⟩
  rw [hW1] at b1 hZ
  have H := Lib.hid (And.intro b1 hZ)
  obtain ⟨M, hM⟩ : ∃ M, (if n < 2 then 2 else n) = M := ⟨_, rfl⟩
  have hin2 : in64 M := by unfold in64 at *; subst hM; split <;> omega
  have Hin := Lib.hid hin2
  rw [hM]
  clear b1 hZ hin hin2
  go_enter Tryd.func59, Tryd.ntmps59
  go_wp2_with fail
  refine (xdigits_any M _ Hin.out).mono ?_
  rintro _ W2 ⟨rfl, hb⟩
  have Hb := Lib.hid hb
  clear hb
  go_wp2_with fail
  refine (tell_any _ _).mono ?_
  rintro _ W3 ⟨rfl, hb3⟩
  have hb := below_then Hb.out hb3
  have hr := blk_keep hb H.out.2
  have hb2 := below_then H.out.1 hb
  obtain ⟨r0, r1, r2, f0, f1, f2⟩ := cells3 hr
  have HF := Lib.hid (And.intro hr hb2)
  clear hr hb2 hb hb3
  go_wp2_with fail
  have hZ := set3 HF.out.1 (.string ⟨(digP M).toArray⟩) (.bool true) (.bool true)
  have hG := below3 HF.out.2 (Nat.le_refl _) (.string ⟨(digP M).toArray⟩) (.bool true) (.bool true)
  obtain ⟨WF, hWF⟩ : ∃ W, ((W3.setCell ⟨w.heap.size, 0, none⟩ (.string ⟨(digP M).toArray⟩)).setCell ⟨w.heap.size, 1, none⟩ (.bool true)).setCell ⟨w.heap.size, 2, none⟩ (.bool true) = W := ⟨_, rfl⟩
  rw [hWF] at hZ hG ⊢
  obtain ⟨z0, z1, z2, -, -, -⟩ := cells3 hZ
  exact bodyPost_ret (v := .agg #[.string ⟨(digP M).toArray⟩, .bool true, .bool true]) (by simp [results, Tryd.results59, go_sem, z0, z1, z2]) rfl ⟨rfl, hG⟩
set_option maxRecDepth 100000 in
set_option maxHeartbeats 1000000 in
theorem mostOut_any (b c : Nat) (cs : Array Value) (n M o : Int) (tp : TypeId) (w : World) (hb : w.heap[b]? = some (.cells cs 32 (0, 0))) (hk : cs[2]? = some (.int .i64 o)) (hc : w.heap[c]? = some (.cells #[.pointer (some ⟨b, 0, none⟩)] tp (0, 0)))
    (hM : (if 65536 < n then 65536 else n) = M) (_hbc : b ≠ c) :
    Calls Tryd.prog 53 #[.int .i64 n, .pointer (some ⟨c, 0, none⟩)] w fun e w' => ∃ a, e = .returned (ansV a) ∧ w.grownBy w' (some b) ∧ (a = ⟨⟨#[]⟩, false, true⟩ ∧ w'.heap[b]? = some (.cells (cs.setIfInBounds 2 (.int .i64 M)) 32 (0, 0))) := by
  have hbl : b < w.heap.size := (Array.getElem?_eq_some_iff.1 hb).1
  have hcl : c < w.heap.size := (Array.getElem?_eq_some_iff.1 hc).1
  have b1 := box_below w (.cells #[.string ⟨#[]⟩, .bool false, .bool false] 65)
  have hZ := blk_new w (.cells #[.string ⟨#[]⟩, .bool false, .bool false] 65)
  have hb1 := blk_keep b1 hb
  have hc1 := blk_keep b1 hc
  obtain ⟨W1, hW1⟩ : ∃ W, w.alloc (.cells #[.string ⟨#[]⟩, .bool false, .bool false] 65) = W := ⟨_, rfl⟩
  rw [hW1] at b1 hZ hb1 hc1
  obtain ⟨ck, fk⟩ := cell_of hb1 hk
  obtain ⟨cc, fc⟩ := cells1 hc1
  have hb2 := blk_set hb1 2 (.int .i64 M)
  have hZ2 : (W1.setCell ⟨b, 2, none⟩ (.int .i64 M)).heap[w.heap.size]? = some (.cells #[.string ⟨#[]⟩, .bool false, .bool false] 65 (0, 0)) := (Below.heap_setCell W1 ⟨b, 2, none⟩ _ w.heap.size (by simp; omega)).trans hZ
  have hg2 : w.grownBy (W1.setCell ⟨b, 2, none⟩ (.int .i64 M)) (some b) := grown_set (grown_of_below b1 _) _ _
  obtain ⟨r0, r1, r2, f0, f1, f2⟩ := cells3 hZ2
  have HF := Lib.hid (And.intro hb2 (And.intro hZ2 hg2))
  clear b1 hZ hb1 hc1 hb hc hk hb2 hZ2 hg2
  go_enter Tryd.func53, Tryd.ntmps53
  go_wp2_with fail
  have hZ := set3 HF.out.2.1 (.string ⟨#[]⟩) (.bool false) (.bool true)
  have hG := grown3 HF.out.2.2 (Nat.le_refl _) (.string ⟨#[]⟩) (.bool false) (.bool true)
  have hP := set3_other HF.out.1 (show w.heap.size ≠ b by omega) (.string ⟨#[]⟩) (.bool false) (.bool true)
  obtain ⟨WF, hWF⟩ : ∃ W, (((W1.setCell ⟨b, 2, none⟩ (.int .i64 M)).setCell ⟨w.heap.size, 0, none⟩ (.string ⟨#[]⟩)).setCell ⟨w.heap.size, 1, none⟩ (.bool false)).setCell ⟨w.heap.size, 2, none⟩ (.bool true) = W := ⟨_, rfl⟩
  rw [hWF] at hZ hG hP ⊢
  obtain ⟨z0, z1, z2, -, -, -⟩ := cells3 hZ
  exact bodyPost_ret (v := .agg #[.string ⟨#[]⟩, .bool false, .bool true]) (by simp [results, Tryd.results53, go_sem, z0, z1, z2]) rfl ⟨⟨_, false, true⟩, rfl, hG, rfl, hP⟩
set_option maxRecDepth 100000 in
set_option maxHeartbeats 1000000 in
theorem asked_any (b c : Nat) (cs : Array Value) (x h : Bool) (tp : TypeId) (w : World) (hb : w.heap[b]? = some (.cells cs 32 (0, 0))) (hk : cs[6]? = some (.bool h)) (hc : w.heap[c]? = some (.cells #[.pointer (some ⟨b, 0, none⟩)] tp (0, 0))) (hbc : b ≠ c) :
    Calls Tryd.prog 56 #[.bool x, .pointer (some ⟨c, 0, none⟩)] w fun e w' => ∃ a, e = .returned (ansV a) ∧ w.grownBy w' (some b) ∧ (a = ⟨flagS (h || x), true, true⟩ ∧ w'.heap[b]? = some (.cells (cs.setIfInBounds 6 (.bool (h || x))) 32 (0, 0))) := by
  have hbl : b < w.heap.size := (Array.getElem?_eq_some_iff.1 hb).1
  have hcl : c < w.heap.size := (Array.getElem?_eq_some_iff.1 hc).1
  have b1 := box_below w (.cells #[.string ⟨#[]⟩, .bool false, .bool false] 65)
  have hZ := blk_new w (.cells #[.string ⟨#[]⟩, .bool false, .bool false] 65)
  have hb1 := blk_keep b1 hb
  have hc1 := blk_keep b1 hc
  obtain ⟨W1, hW1⟩ : ∃ W, w.alloc (.cells #[.string ⟨#[]⟩, .bool false, .bool false] 65) = W := ⟨_, rfl⟩
  rw [hW1] at b1 hZ hb1 hc1
  have hsz := hsz_of hW1
  obtain ⟨ck, fk⟩ := cell_of hb1 hk
  obtain ⟨cc, fc⟩ := cells1 hc1
  have hkl : 6 < cs.size := (Array.getElem?_eq_some_iff.1 hk).1
  obtain ⟨y, hy⟩ : ∃ y, y = (h || x) := ⟨_, rfl⟩
  have hb2 := blk_set hb1 6 (.bool y)
  have hc2 : (W1.setCell ⟨b, 6, none⟩ (.bool y)).heap[c]? = some (.cells #[.pointer (some ⟨b, 0, none⟩)] tp (0, 0)) := (Below.heap_setCell W1 ⟨b, 6, none⟩ _ c (by simpa using fun h => hbc h.symm)).trans hc1
  have hZ2 : (W1.setCell ⟨b, 6, none⟩ (.bool y)).heap[w.heap.size]? = some (.cells #[.string ⟨#[]⟩, .bool false, .bool false] 65 (0, 0)) := (Below.heap_setCell W1 ⟨b, 6, none⟩ _ w.heap.size (by simp; omega)).trans hZ
  have hg2 : w.grownBy (W1.setCell ⟨b, 6, none⟩ (.bool y)).drew (some b) := grown_drew (grown_set (grown_of_below b1 _) _ _)
  obtain ⟨cc2, -⟩ := cells1 hc2
  obtain ⟨ck2, -⟩ := cell_of hb2 (k := 6) (v := .bool y) (by simp [hkl])
  rw [← hy]
  have H := Lib.hid (And.intro hb2 (And.intro hZ2 hg2))
  have HS := Lib.hid hsz
  clear b1 hZ hb1 hc1 hb hc hk hb2 hc2 hZ2 hg2 hkl hsz
  cases h with
  | true =>
    cases x with
    | true =>
      obtain rfl : y = true := hy
      go_enter Tryd.func56, Tryd.ntmps56
      go_wp2_with fail
      go_region
      go_wp2_with fail
      refine (flag_any _ _).mono ?_
      rintro _ W4 ⟨rfl, hb4⟩
      have hblk := blk_keep hb4 (show (W1.setCell ⟨b, 6, none⟩ _).drew.heap[b]? = _ from H.out.1)
      have hres := blk_keep hb4 (show (W1.setCell ⟨b, 6, none⟩ _).drew.heap[w.heap.size]? = _ from H.out.2.1)
      have hg4 := grown_below H.out.2.2 hb4
      obtain ⟨r0, r1, r2, f0, f1, f2⟩ := cells3 hres
      have HF := Lib.hid (And.intro hblk (And.intro hres hg4))
      clear hblk hres hg4 hb4
      go_wp2_with fail
      have hZ := set3 HF.out.2.1 (.string (flagS true)) (.bool true) (.bool true)
      have hG := grown3 HF.out.2.2 (Nat.le_refl _) (.string (flagS true)) (.bool true) (.bool true)
      have hP := set3_other HF.out.1 (show w.heap.size ≠ b by omega) (.string (flagS true)) (.bool true) (.bool true)
      obtain ⟨z0, z1, z2, -, -, -⟩ := cells3 hZ
      exact bodyPost_ret (v := .agg #[.string (flagS true), .bool true, .bool true]) (by simp [results, Tryd.results56, go_sem, z0, z1, z2]) rfl ⟨⟨_, true, true⟩, rfl, hG, rfl, hP⟩
    | false =>
      obtain rfl : y = true := hy
      go_enter Tryd.func56, Tryd.ntmps56
      go_wp2_with fail
      go_region
      go_wp2_with fail
      refine (flag_any _ _).mono ?_
      rintro _ W4 ⟨rfl, hb4⟩
      have hblk := blk_keep hb4 (show (W1.setCell ⟨b, 6, none⟩ _).drew.heap[b]? = _ from H.out.1)
      have hres := blk_keep hb4 (show (W1.setCell ⟨b, 6, none⟩ _).drew.heap[w.heap.size]? = _ from H.out.2.1)
      have hg4 := grown_below H.out.2.2 hb4
      obtain ⟨r0, r1, r2, f0, f1, f2⟩ := cells3 hres
      have HF := Lib.hid (And.intro hblk (And.intro hres hg4))
      clear hblk hres hg4 hb4
      go_wp2_with fail
      have hZ := set3 HF.out.2.1 (.string (flagS true)) (.bool true) (.bool true)
      have hG := grown3 HF.out.2.2 (Nat.le_refl _) (.string (flagS true)) (.bool true) (.bool true)
      have hP := set3_other HF.out.1 (show w.heap.size ≠ b by omega) (.string (flagS true)) (.bool true) (.bool true)
      obtain ⟨z0, z1, z2, -, -, -⟩ := cells3 hZ
      exact bodyPost_ret (v := .agg #[.string (flagS true), .bool true, .bool true]) (by simp [results, Tryd.results56, go_sem, z0, z1, z2]) rfl ⟨⟨_, true, true⟩, rfl, hG, rfl, hP⟩
  | false =>
    cases x with
    | true =>
      obtain rfl : y = true := hy
      go_enter Tryd.func56, Tryd.ntmps56
      go_wp2_with fail
      go_region
      go_wp2_with fail
      refine (flag_any _ _).mono ?_
      rintro _ W4 ⟨rfl, hb4⟩
      have hblk := blk_keep hb4 (show (W1.setCell ⟨b, 6, none⟩ _).drew.heap[b]? = _ from H.out.1)
      have hres := blk_keep hb4 (show (W1.setCell ⟨b, 6, none⟩ _).drew.heap[w.heap.size]? = _ from H.out.2.1)
      have hg4 := grown_below H.out.2.2 hb4
      obtain ⟨r0, r1, r2, f0, f1, f2⟩ := cells3 hres
      have HF := Lib.hid (And.intro hblk (And.intro hres hg4))
      clear hblk hres hg4 hb4
      go_wp2_with fail
      have hZ := set3 HF.out.2.1 (.string (flagS true)) (.bool true) (.bool true)
      have hG := grown3 HF.out.2.2 (Nat.le_refl _) (.string (flagS true)) (.bool true) (.bool true)
      have hP := set3_other HF.out.1 (show w.heap.size ≠ b by omega) (.string (flagS true)) (.bool true) (.bool true)
      obtain ⟨z0, z1, z2, -, -, -⟩ := cells3 hZ
      exact bodyPost_ret (v := .agg #[.string (flagS true), .bool true, .bool true]) (by simp [results, Tryd.results56, go_sem, z0, z1, z2]) rfl ⟨⟨_, true, true⟩, rfl, hG, rfl, hP⟩
    | false =>
      obtain rfl : y = false := hy
      go_enter Tryd.func56, Tryd.ntmps56
      go_wp2_with fail
      go_region
      go_wp2_with fail
      refine (flag_any _ _).mono ?_
      rintro _ W4 ⟨rfl, hb4⟩
      have hblk := blk_keep hb4 (show (W1.setCell ⟨b, 6, none⟩ _).drew.heap[b]? = _ from H.out.1)
      have hres := blk_keep hb4 (show (W1.setCell ⟨b, 6, none⟩ _).drew.heap[w.heap.size]? = _ from H.out.2.1)
      have hg4 := grown_below H.out.2.2 hb4
      obtain ⟨r0, r1, r2, f0, f1, f2⟩ := cells3 hres
      have HF := Lib.hid (And.intro hblk (And.intro hres hg4))
      clear hblk hres hg4 hb4
      go_wp2_with fail
      have hZ := set3 HF.out.2.1 (.string (flagS false)) (.bool true) (.bool true)
      have hG := grown3 HF.out.2.2 (Nat.le_refl _) (.string (flagS false)) (.bool true) (.bool true)
      have hP := set3_other HF.out.1 (show w.heap.size ≠ b by omega) (.string (flagS false)) (.bool true) (.bool true)
      obtain ⟨z0, z1, z2, -, -, -⟩ := cells3 hZ
      exact bodyPost_ret (v := .agg #[.string (flagS false), .bool true, .bool true]) (by simp [results, Tryd.results56, go_sem, z0, z1, z2]) rfl ⟨⟨_, true, true⟩, rfl, hG, rfl, hP⟩
set_option maxRecDepth 100000 in
set_option maxHeartbeats 1000000 in
theorem immed_any (b c : Nat) (cs : Array Value) (x h : Bool) (tp : TypeId) (w : World) (hb : w.heap[b]? = some (.cells cs 32 (0, 0))) (hk : cs[7]? = some (.bool h)) (hc : w.heap[c]? = some (.cells #[.pointer (some ⟨b, 0, none⟩)] tp (0, 0))) (hbc : b ≠ c) :
    Calls Tryd.prog 58 #[.bool x, .pointer (some ⟨c, 0, none⟩)] w fun e w' => ∃ a, e = .returned (ansV a) ∧ w.grownBy w' (some b) ∧ (a = ⟨flagS (h && x), true, true⟩ ∧ w'.heap[b]? = some (.cells (cs.setIfInBounds 7 (.bool (h && x))) 32 (0, 0))) := by
  have hbl : b < w.heap.size := (Array.getElem?_eq_some_iff.1 hb).1
  have hcl : c < w.heap.size := (Array.getElem?_eq_some_iff.1 hc).1
  have b1 := box_below w (.cells #[.string ⟨#[]⟩, .bool false, .bool false] 65)
  have hZ := blk_new w (.cells #[.string ⟨#[]⟩, .bool false, .bool false] 65)
  have hb1 := blk_keep b1 hb
  have hc1 := blk_keep b1 hc
  obtain ⟨W1, hW1⟩ : ∃ W, w.alloc (.cells #[.string ⟨#[]⟩, .bool false, .bool false] 65) = W := ⟨_, rfl⟩
  rw [hW1] at b1 hZ hb1 hc1
  have hsz := hsz_of hW1
  obtain ⟨ck, fk⟩ := cell_of hb1 hk
  obtain ⟨cc, fc⟩ := cells1 hc1
  have hkl : 7 < cs.size := (Array.getElem?_eq_some_iff.1 hk).1
  obtain ⟨y, hy⟩ : ∃ y, y = (h && x) := ⟨_, rfl⟩
  have hb2 := blk_set hb1 7 (.bool y)
  have hc2 : (W1.setCell ⟨b, 7, none⟩ (.bool y)).heap[c]? = some (.cells #[.pointer (some ⟨b, 0, none⟩)] tp (0, 0)) := (Below.heap_setCell W1 ⟨b, 7, none⟩ _ c (by simpa using fun h => hbc h.symm)).trans hc1
  have hZ2 : (W1.setCell ⟨b, 7, none⟩ (.bool y)).heap[w.heap.size]? = some (.cells #[.string ⟨#[]⟩, .bool false, .bool false] 65 (0, 0)) := (Below.heap_setCell W1 ⟨b, 7, none⟩ _ w.heap.size (by simp; omega)).trans hZ
  have hg2 : w.grownBy (W1.setCell ⟨b, 7, none⟩ (.bool y)).drew (some b) := grown_drew (grown_set (grown_of_below b1 _) _ _)
  obtain ⟨cc2, -⟩ := cells1 hc2
  obtain ⟨ck2, -⟩ := cell_of hb2 (k := 7) (v := .bool y) (by simp [hkl])
  rw [← hy]
  have H := Lib.hid (And.intro hb2 (And.intro hZ2 hg2))
  have HS := Lib.hid hsz
  clear b1 hZ hb1 hc1 hb hc hk hb2 hc2 hZ2 hg2 hkl hsz
  cases h with
  | true =>
    cases x with
    | true =>
      obtain rfl : y = true := hy
      go_enter Tryd.func58, Tryd.ntmps58
      go_wp2_with fail
      go_region
      go_wp2_with fail
      refine (flag_any _ _).mono ?_
      rintro _ W4 ⟨rfl, hb4⟩
      have hblk := blk_keep hb4 (show (W1.setCell ⟨b, 7, none⟩ _).drew.heap[b]? = _ from H.out.1)
      have hres := blk_keep hb4 (show (W1.setCell ⟨b, 7, none⟩ _).drew.heap[w.heap.size]? = _ from H.out.2.1)
      have hg4 := grown_below H.out.2.2 hb4
      obtain ⟨r0, r1, r2, f0, f1, f2⟩ := cells3 hres
      have HF := Lib.hid (And.intro hblk (And.intro hres hg4))
      clear hblk hres hg4 hb4
      go_wp2_with fail
      have hZ := set3 HF.out.2.1 (.string (flagS true)) (.bool true) (.bool true)
      have hG := grown3 HF.out.2.2 (Nat.le_refl _) (.string (flagS true)) (.bool true) (.bool true)
      have hP := set3_other HF.out.1 (show w.heap.size ≠ b by omega) (.string (flagS true)) (.bool true) (.bool true)
      obtain ⟨z0, z1, z2, -, -, -⟩ := cells3 hZ
      exact bodyPost_ret (v := .agg #[.string (flagS true), .bool true, .bool true]) (by simp [results, Tryd.results58, go_sem, z0, z1, z2]) rfl ⟨⟨_, true, true⟩, rfl, hG, rfl, hP⟩
    | false =>
      obtain rfl : y = false := hy
      go_enter Tryd.func58, Tryd.ntmps58
      go_wp2_with fail
      go_region
      go_wp2_with fail
      refine (flag_any _ _).mono ?_
      rintro _ W4 ⟨rfl, hb4⟩
      have hblk := blk_keep hb4 (show (W1.setCell ⟨b, 7, none⟩ _).drew.heap[b]? = _ from H.out.1)
      have hres := blk_keep hb4 (show (W1.setCell ⟨b, 7, none⟩ _).drew.heap[w.heap.size]? = _ from H.out.2.1)
      have hg4 := grown_below H.out.2.2 hb4
      obtain ⟨r0, r1, r2, f0, f1, f2⟩ := cells3 hres
      have HF := Lib.hid (And.intro hblk (And.intro hres hg4))
      clear hblk hres hg4 hb4
      go_wp2_with fail
      have hZ := set3 HF.out.2.1 (.string (flagS false)) (.bool true) (.bool true)
      have hG := grown3 HF.out.2.2 (Nat.le_refl _) (.string (flagS false)) (.bool true) (.bool true)
      have hP := set3_other HF.out.1 (show w.heap.size ≠ b by omega) (.string (flagS false)) (.bool true) (.bool true)
      obtain ⟨z0, z1, z2, -, -, -⟩ := cells3 hZ
      exact bodyPost_ret (v := .agg #[.string (flagS false), .bool true, .bool true]) (by simp [results, Tryd.results58, go_sem, z0, z1, z2]) rfl ⟨⟨_, true, true⟩, rfl, hG, rfl, hP⟩
  | false =>
    cases x with
    | true =>
      obtain rfl : y = false := hy
      go_enter Tryd.func58, Tryd.ntmps58
      go_wp2_with fail
      go_region
      go_wp2_with fail
      refine (flag_any _ _).mono ?_
      rintro _ W4 ⟨rfl, hb4⟩
      have hblk := blk_keep hb4 (show (W1.setCell ⟨b, 7, none⟩ _).drew.heap[b]? = _ from H.out.1)
      have hres := blk_keep hb4 (show (W1.setCell ⟨b, 7, none⟩ _).drew.heap[w.heap.size]? = _ from H.out.2.1)
      have hg4 := grown_below H.out.2.2 hb4
      obtain ⟨r0, r1, r2, f0, f1, f2⟩ := cells3 hres
      have HF := Lib.hid (And.intro hblk (And.intro hres hg4))
      clear hblk hres hg4 hb4
      go_wp2_with fail
      have hZ := set3 HF.out.2.1 (.string (flagS false)) (.bool true) (.bool true)
      have hG := grown3 HF.out.2.2 (Nat.le_refl _) (.string (flagS false)) (.bool true) (.bool true)
      have hP := set3_other HF.out.1 (show w.heap.size ≠ b by omega) (.string (flagS false)) (.bool true) (.bool true)
      obtain ⟨z0, z1, z2, -, -, -⟩ := cells3 hZ
      exact bodyPost_ret (v := .agg #[.string (flagS false), .bool true, .bool true]) (by simp [results, Tryd.results58, go_sem, z0, z1, z2]) rfl ⟨⟨_, true, true⟩, rfl, hG, rfl, hP⟩
    | false =>
      obtain rfl : y = false := hy
      go_enter Tryd.func58, Tryd.ntmps58
      go_wp2_with fail
      go_region
      go_wp2_with fail
      refine (flag_any _ _).mono ?_
      rintro _ W4 ⟨rfl, hb4⟩
      have hblk := blk_keep hb4 (show (W1.setCell ⟨b, 7, none⟩ _).drew.heap[b]? = _ from H.out.1)
      have hres := blk_keep hb4 (show (W1.setCell ⟨b, 7, none⟩ _).drew.heap[w.heap.size]? = _ from H.out.2.1)
      have hg4 := grown_below H.out.2.2 hb4
      obtain ⟨r0, r1, r2, f0, f1, f2⟩ := cells3 hres
      have HF := Lib.hid (And.intro hblk (And.intro hres hg4))
      clear hblk hres hg4 hb4
      go_wp2_with fail
      have hZ := set3 HF.out.2.1 (.string (flagS false)) (.bool true) (.bool true)
      have hG := grown3 HF.out.2.2 (Nat.le_refl _) (.string (flagS false)) (.bool true) (.bool true)
      have hP := set3_other HF.out.1 (show w.heap.size ≠ b by omega) (.string (flagS false)) (.bool true) (.bool true)
      obtain ⟨z0, z1, z2, -, -, -⟩ := cells3 hZ
      exact bodyPost_ret (v := .agg #[.string (flagS false), .bool true, .bool true]) (by simp [results, Tryd.results58, go_sem, z0, z1, z2]) rfl ⟨⟨_, true, true⟩, rfl, hG, rfl, hP⟩
theorem yes6_any (x : Bool) (w : World) : Calls Tryd.prog 60 #[.bool x] w fun e w' => e = .returned (ansV ⟨flagS true, true, true⟩) ∧ Below w.heap.size w w' := by
  have b1 := box_below w (.cells #[.string ⟨#[]⟩, .bool false, .bool false] 65)
  have hZ := blk_new w (.cells #[.string ⟨#[]⟩, .bool false, .bool false] 65)
  obtain ⟨W1, hW1⟩ : ∃ W, w.alloc (.cells #[.string ⟨#[]⟩, .bool false, .bool false] 65) = W := ⟨_, rfl⟩
  rw [hW1] at b1 hZ
  have H := Lib.hid (And.intro b1 hZ)
  clear b1 hZ
  go_enter Tryd.func60, Tryd.ntmps60
  go_wp2_with fail
  refine (flag_any _ _).mono ?_
  rintro _ W2 ⟨rfl, hb⟩
  have hr := blk_keep hb H.out.2
  have hb2 := below_then H.out.1 hb
  obtain ⟨r0, r1, r2, f0, f1, f2⟩ := cells3 hr
  have HF := Lib.hid (And.intro hr hb2)
  clear hr hb2 hb
  go_wp2_with fail
  have hZ := set3 HF.out.1 (.string (flagS true)) (.bool true) (.bool true)
  have hG := below3 HF.out.2 (Nat.le_refl _) (.string (flagS true)) (.bool true) (.bool true)
  obtain ⟨WF, hWF⟩ : ∃ W, ((W2.setCell ⟨w.heap.size, 0, none⟩ (.string (flagS true))).setCell ⟨w.heap.size, 1, none⟩ (.bool true)).setCell ⟨w.heap.size, 2, none⟩ (.bool true) = W := ⟨_, rfl⟩
  rw [hWF] at hZ hG ⊢
  obtain ⟨z0, z1, z2, -, -, -⟩ := cells3 hZ
  exact bodyPost_ret (v := .agg #[.string (flagS true), .bool true, .bool true]) (by simp [results, Tryd.results60, go_sem, z0, z1, z2]) rfl ⟨rfl, hG⟩
theorem no7_any (x : Bool) (w : World) : Calls Tryd.prog 61 #[.bool x] w fun e w' => e = .returned (ansV ⟨flagS false, true, true⟩) ∧ Below w.heap.size w w' := by
  have b1 := box_below w (.cells #[.string ⟨#[]⟩, .bool false, .bool false] 65)
  have hZ := blk_new w (.cells #[.string ⟨#[]⟩, .bool false, .bool false] 65)
  obtain ⟨W1, hW1⟩ : ∃ W, w.alloc (.cells #[.string ⟨#[]⟩, .bool false, .bool false] 65) = W := ⟨_, rfl⟩
  rw [hW1] at b1 hZ
  have H := Lib.hid (And.intro b1 hZ)
  clear b1 hZ
  go_enter Tryd.func61, Tryd.ntmps61
  go_wp2_with fail
  refine (flag_any _ _).mono ?_
  rintro _ W2 ⟨rfl, hb⟩
  have hr := blk_keep hb H.out.2
  have hb2 := below_then H.out.1 hb
  obtain ⟨r0, r1, r2, f0, f1, f2⟩ := cells3 hr
  have HF := Lib.hid (And.intro hr hb2)
  clear hr hb2 hb
  go_wp2_with fail
  have hZ := set3 HF.out.1 (.string (flagS false)) (.bool true) (.bool true)
  have hG := below3 HF.out.2 (Nat.le_refl _) (.string (flagS false)) (.bool true) (.bool true)
  obtain ⟨WF, hWF⟩ : ∃ W, ((W2.setCell ⟨w.heap.size, 0, none⟩ (.string (flagS false))).setCell ⟨w.heap.size, 1, none⟩ (.bool true)).setCell ⟨w.heap.size, 2, none⟩ (.bool true) = W := ⟨_, rfl⟩
  rw [hWF] at hZ hG ⊢
  obtain ⟨z0, z1, z2, -, -, -⟩ := cells3 hZ
  exact bodyPost_ret (v := .agg #[.string (flagS false), .bool true, .bool true]) (by simp [results, Tryd.results61, go_sem, z0, z1, z2]) rfl ⟨rfl, hG⟩
end Go.Proofs.YtmehjcimohhopaaDoor

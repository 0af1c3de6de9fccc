/- The program's answer to a pair, key by key. No statement is proved here. -/
import Derived.Test.YtmehjcimohhopaaDoorTxtJ
namespace Go.Proofs.YtmehjcimohhopaaDoor
open Go.RowKit

structure Par where
  hs : Bool
  ds : Bool
  mo : Int
  mi : Int
  bu : Int
  fi : Int
  asked : Bool
  im : Bool
  di : Bool
  ini : ByteArray
  tgt : ByteArray
def authS (ws : List ByteArray) : ByteArray := if ws.any isNone then noneS else rejS
def parCells (p : Par) : Array Value := #[.bool p.hs, .bool p.ds, .int .i64 p.mo, .int .i64 p.mi, .int .i64 p.bu, .int .i64 p.fi, .bool p.asked, .bool p.im, .bool p.di, .string p.ini, .string p.tgt]

set_option maxRecDepth 100000 in
set_option maxHeartbeats 1000000 in
theorem ans_ini (P : Par) (b : Nat) (k v : ByteArray) (w : World) (hb : w.heap[b]? = some (.cells (parCells P) 32 (0, 0))) (hk : k.toList = [73, 110, 105, 116, 105, 97, 116, 111, 114, 78, 97, 109, 101]) :
    Calls Tryd.prog 34 #[.pointer (some ⟨b, 0, none⟩), .string k, .string v] w (AnsTo w b (parCells { P with ini := v }, ⟨⟨#[]⟩, false, !(v.toList == [])⟩)) := by
  have hbl : b < w.heap.size := (Array.getElem?_eq_some_iff.1 hb).1
  have b1 := box_below w (.cells #[.pointer (some ⟨b, 0, none⟩)] 88)
  have hc1 := blk_new w (.cells #[.pointer (some ⟨b, 0, none⟩)] 88)
  obtain ⟨W1, hW1⟩ : ∃ W, w.alloc (.cells #[.pointer (some ⟨b, 0, none⟩)] 88) = W := ⟨_, rfl⟩
  rw [hW1] at b1 hc1
  have hs1 := hsz_of hW1
  have b2 := box_below W1 (.cells #[.string ⟨#[]⟩, .bool false, .bool false] 65)
  have hZ := blk_new W1 (.cells #[.string ⟨#[]⟩, .bool false, .bool false] 65)
  have hc2 := blk_keep b2 hc1
  have hp2 := blk_keep b2 (blk_keep b1 hb)
  obtain ⟨W2, hW2⟩ : ∃ W, W1.alloc (.cells #[.string ⟨#[]⟩, .bool false, .bool false] 65) = W := ⟨_, rfl⟩
  rw [hW2] at b2 hZ hc2 hp2
  have hbW := below_then b1 b2
  obtain ⟨cc, -⟩ := cells1 hc2
  obtain ⟨r0, r1, r2, f0, f1, f2⟩ := cells3 hZ
  have Hbl := Lib.hid (And.intro hbl hs1)
  have H := Lib.hid (And.intro hbW (And.intro hZ (And.intro hp2 hc2)))
  have Hb := Lib.hid hb
  clear b1 hc1 b2 hZ hc2 hp2 hbW hb hs1
  obtain ⟨ck, fk⟩ := cell_of H.out.2.2.1 (k := 9) (v := .string P.ini) rfl
  have hp3 : (W2.setCell ⟨b, 9, none⟩ (.string v)).heap[b]? = some (.cells (parCells { P with ini := v }) 32 (0, 0)) := blk_set H.out.2.2.1 9 (.string v)
  have hr3 : (W2.setCell ⟨b, 9, none⟩ (.string v)).heap[W1.heap.size]? = _ := (Below.heap_setCell W2 ⟨b, 9, none⟩ _ W1.heap.size (by have := Hbl.out; simp; omega)).trans H.out.2.1
  have hg3 : w.grownBy (W2.setCell ⟨b, 9, none⟩ (.string v)) (some b) := grown_set (grown_of_below H.out.1 _) _ _
  have H3 := Lib.hid (And.intro hp3 (And.intro hr3 hg3))
  obtain ⟨q, hq⟩ : ∃ q, (v.toList == []) = q := ⟨_, rfl⟩
  rw [hq]
  clear hp3 hr3 hg3
  go_enter Tryd.func34, Tryd.ntmps34
  go_wp2_with fail
  have hZ := set3 H3.out.2.1 (.string ⟨#[]⟩) (.bool false) (.bool (!q))
  have hG := grown3 H3.out.2.2 (show w.heap.size ≤ W1.heap.size by have := Hbl.out.2; omega) (.string ⟨#[]⟩) (.bool false) (.bool (!q))
  have hP := set3_other H3.out.1 (show W1.heap.size ≠ b by have := Hbl.out; omega) (.string ⟨#[]⟩) (.bool false) (.bool (!q))
  obtain ⟨WF, hWF⟩ : ∃ W, (((W2.setCell ⟨b, 9, none⟩ (.string v)).setCell ⟨W1.heap.size, 0, none⟩ (.string ⟨#[]⟩)).setCell ⟨W1.heap.size, 1, none⟩ (.bool false)).setCell ⟨W1.heap.size, 2, none⟩ (.bool (!q)) = W := ⟨_, rfl⟩
  rw [hWF] at hZ hG hP ⊢
  obtain ⟨z0, z1, z2, -, -, -⟩ := cells3 hZ
  exact bodyPost_ret (v := .agg #[.string ⟨#[]⟩, .bool false, .bool (!q)]) (by simp [results, Tryd.results34, go_sem, z0, z1, z2]) rfl ⟨rfl, hG, hP⟩
set_option maxRecDepth 100000 in
set_option maxHeartbeats 1000000 in
theorem ans_tgt (P : Par) (b : Nat) (k v : ByteArray) (w : World) (hb : w.heap[b]? = some (.cells (parCells P) 32 (0, 0))) (hk : k.toList = [84, 97, 114, 103, 101, 116, 78, 97, 109, 101]) :
    Calls Tryd.prog 34 #[.pointer (some ⟨b, 0, none⟩), .string k, .string v] w (AnsTo w b (parCells { P with tgt := v }, ⟨⟨#[]⟩, false, !(v.toList == [])⟩)) := by
  have hbl : b < w.heap.size := (Array.getElem?_eq_some_iff.1 hb).1
  have b1 := box_below w (.cells #[.pointer (some ⟨b, 0, none⟩)] 88)
  have hc1 := blk_new w (.cells #[.pointer (some ⟨b, 0, none⟩)] 88)
  obtain ⟨W1, hW1⟩ : ∃ W, w.alloc (.cells #[.pointer (some ⟨b, 0, none⟩)] 88) = W := ⟨_, rfl⟩
  rw [hW1] at b1 hc1
  have hs1 := hsz_of hW1
  have b2 := box_below W1 (.cells #[.string ⟨#[]⟩, .bool false, .bool false] 65)
  have hZ := blk_new W1 (.cells #[.string ⟨#[]⟩, .bool false, .bool false] 65)
  have hc2 := blk_keep b2 hc1
  have hp2 := blk_keep b2 (blk_keep b1 hb)
  obtain ⟨W2, hW2⟩ : ∃ W, W1.alloc (.cells #[.string ⟨#[]⟩, .bool false, .bool false] 65) = W := ⟨_, rfl⟩
  rw [hW2] at b2 hZ hc2 hp2
  have hbW := below_then b1 b2
  obtain ⟨cc, -⟩ := cells1 hc2
  obtain ⟨r0, r1, r2, f0, f1, f2⟩ := cells3 hZ
  have Hbl := Lib.hid (And.intro hbl hs1)
  have H := Lib.hid (And.intro hbW (And.intro hZ (And.intro hp2 hc2)))
  have Hb := Lib.hid hb
  clear b1 hc1 b2 hZ hc2 hp2 hbW hb hs1
  obtain ⟨ck, fk⟩ := cell_of H.out.2.2.1 (k := 10) (v := .string P.tgt) rfl
  have hp3 : (W2.setCell ⟨b, 10, none⟩ (.string v)).heap[b]? = some (.cells (parCells { P with tgt := v }) 32 (0, 0)) := blk_set H.out.2.2.1 10 (.string v)
  have hr3 : (W2.setCell ⟨b, 10, none⟩ (.string v)).heap[W1.heap.size]? = _ := (Below.heap_setCell W2 ⟨b, 10, none⟩ _ W1.heap.size (by have := Hbl.out; simp; omega)).trans H.out.2.1
  have hg3 : w.grownBy (W2.setCell ⟨b, 10, none⟩ (.string v)) (some b) := grown_set (grown_of_below H.out.1 _) _ _
  have H3 := Lib.hid (And.intro hp3 (And.intro hr3 hg3))
  obtain ⟨q, hq⟩ : ∃ q, (v.toList == []) = q := ⟨_, rfl⟩
  rw [hq]
  clear hp3 hr3 hg3
  go_enter Tryd.func34, Tryd.ntmps34
  go_wp2_with fail
  have hZ := set3 H3.out.2.1 (.string ⟨#[]⟩) (.bool false) (.bool (!q))
  have hG := grown3 H3.out.2.2 (show w.heap.size ≤ W1.heap.size by have := Hbl.out.2; omega) (.string ⟨#[]⟩) (.bool false) (.bool (!q))
  have hP := set3_other H3.out.1 (show W1.heap.size ≠ b by have := Hbl.out; omega) (.string ⟨#[]⟩) (.bool false) (.bool (!q))
  obtain ⟨WF, hWF⟩ : ∃ W, (((W2.setCell ⟨b, 10, none⟩ (.string v)).setCell ⟨W1.heap.size, 0, none⟩ (.string ⟨#[]⟩)).setCell ⟨W1.heap.size, 1, none⟩ (.bool false)).setCell ⟨W1.heap.size, 2, none⟩ (.bool (!q)) = W := ⟨_, rfl⟩
  rw [hWF] at hZ hG hP ⊢
  obtain ⟨z0, z1, z2, -, -, -⟩ := cells3 hZ
  exact bodyPost_ret (v := .agg #[.string ⟨#[]⟩, .bool false, .bool (!q)]) (by simp [results, Tryd.results34, go_sem, z0, z1, z2]) rfl ⟨rfl, hG, hP⟩
set_option maxRecDepth 100000 in
set_option maxHeartbeats 1000000 in
theorem ans_session (P : Par) (b : Nat) (k v : ByteArray) (w : World) (hb : w.heap[b]? = some (.cells (parCells P) 32 (0, 0))) (hk : k.toList = [83, 101, 115, 115, 105, 111, 110, 84, 121, 112, 101]) :
    Calls Tryd.prog 34 #[.pointer (some ⟨b, 0, none⟩), .string k, .string v] w (AnsTo w b (parCells { P with di := v.toList == [68, 105, 115, 99, 111, 118, 101, 114, 121] }, ⟨⟨#[]⟩, false, (v.toList == [68, 105, 115, 99, 111, 118, 101, 114, 121] || v.toList == [78, 111, 114, 109, 97, 108])⟩)) := by
  have hbl : b < w.heap.size := (Array.getElem?_eq_some_iff.1 hb).1
  have b1 := box_below w (.cells #[.pointer (some ⟨b, 0, none⟩)] 88)
  have hc1 := blk_new w (.cells #[.pointer (some ⟨b, 0, none⟩)] 88)
  obtain ⟨W1, hW1⟩ : ∃ W, w.alloc (.cells #[.pointer (some ⟨b, 0, none⟩)] 88) = W := ⟨_, rfl⟩
  rw [hW1] at b1 hc1
  have hs1 := hsz_of hW1
  have b2 := box_below W1 (.cells #[.string ⟨#[]⟩, .bool false, .bool false] 65)
  have hZ := blk_new W1 (.cells #[.string ⟨#[]⟩, .bool false, .bool false] 65)
  have hc2 := blk_keep b2 hc1
  have hp2 := blk_keep b2 (blk_keep b1 hb)
  obtain ⟨W2, hW2⟩ : ∃ W, W1.alloc (.cells #[.string ⟨#[]⟩, .bool false, .bool false] 65) = W := ⟨_, rfl⟩
  rw [hW2] at b2 hZ hc2 hp2
  have hbW := below_then b1 b2
  obtain ⟨cc, -⟩ := cells1 hc2
  obtain ⟨r0, r1, r2, f0, f1, f2⟩ := cells3 hZ
  have Hbl := Lib.hid (And.intro hbl hs1)
  have H := Lib.hid (And.intro hbW (And.intro hZ (And.intro hp2 hc2)))
  have Hb := Lib.hid hb
  clear b1 hc1 b2 hZ hc2 hp2 hbW hb hs1
  obtain ⟨ck, fk⟩ := cell_of H.out.2.2.1 (k := 8) (v := .bool P.di) rfl
  have hp3 : ∀ y, (W2.setCell ⟨b, 8, none⟩ (.bool y)).heap[b]? = some (.cells (parCells { P with di := y }) 32 (0, 0)) := fun y => blk_set H.out.2.2.1 8 (.bool y)
  have hr3 : ∀ y, (W2.setCell ⟨b, 8, none⟩ (.bool y)).heap[W1.heap.size]? = _ := fun y => (Below.heap_setCell W2 ⟨b, 8, none⟩ _ W1.heap.size (by have := Hbl.out; simp; omega)).trans H.out.2.1
  have hg3 : ∀ y, w.grownBy (W2.setCell ⟨b, 8, none⟩ (.bool y)) (some b) := fun y => grown_set (grown_of_below H.out.1 _) _ _
  have H3 := Lib.hid (And.intro hp3 (And.intro hr3 hg3))
  clear hp3 hr3 hg3
  by_cases hd : v.toList = [68, 105, 115, 99, 111, 118, 101, 114, 121]
  · have hd2 : (v.toList == [68, 105, 115, 99, 111, 118, 101, 114, 121]) = true := by simpa using hd
    rw [hd2]
    go_enter Tryd.func34, Tryd.ntmps34
    go_wp2_with fail
    have hZ := set3 (H3.out.2.1 true) (.string ⟨#[]⟩) (.bool false) (.bool true)
    have hG := grown3 (H3.out.2.2 true) (show w.heap.size ≤ W1.heap.size by have := Hbl.out.2; omega) (.string ⟨#[]⟩) (.bool false) (.bool true)
    have hP := set3_other (H3.out.1 true) (show W1.heap.size ≠ b by have := Hbl.out; omega) (.string ⟨#[]⟩) (.bool false) (.bool true)
    obtain ⟨WF, hWF⟩ : ∃ W, (((W2.setCell ⟨b, 8, none⟩ (.bool true)).setCell ⟨W1.heap.size, 0, none⟩ (.string ⟨#[]⟩)).setCell ⟨W1.heap.size, 1, none⟩ (.bool false)).setCell ⟨W1.heap.size, 2, none⟩ (.bool true) = W := ⟨_, rfl⟩
    rw [hWF] at hZ hG hP ⊢
    obtain ⟨z0, z1, z2, -, -, -⟩ := cells3 hZ
    exact bodyPost_ret (v := .agg #[.string ⟨#[]⟩, .bool false, .bool true]) (by simp [results, Tryd.results34, go_sem, z0, z1, z2]) rfl ⟨rfl, hG, hP⟩
  · have hd2 : (v.toList == [68, 105, 115, 99, 111, 118, 101, 114, 121]) = false := by simpa using hd
    rw [hd2]
    obtain ⟨q, hq⟩ : ∃ q, (v.toList == [78, 111, 114, 109, 97, 108]) = q := ⟨_, rfl⟩
    rw [hq]
    go_enter Tryd.func34, Tryd.ntmps34
    go_wp2_with fail
    have hZ := set3 (H3.out.2.1 false) (.string ⟨#[]⟩) (.bool false) (.bool q)
    have hG := grown3 (H3.out.2.2 false) (show w.heap.size ≤ W1.heap.size by have := Hbl.out.2; omega) (.string ⟨#[]⟩) (.bool false) (.bool q)
    have hP := set3_other (H3.out.1 false) (show W1.heap.size ≠ b by have := Hbl.out; omega) (.string ⟨#[]⟩) (.bool false) (.bool q)
    obtain ⟨WF, hWF⟩ : ∃ W, (((W2.setCell ⟨b, 8, none⟩ (.bool false)).setCell ⟨W1.heap.size, 0, none⟩ (.string ⟨#[]⟩)).setCell ⟨W1.heap.size, 1, none⟩ (.bool false)).setCell ⟨W1.heap.size, 2, none⟩ (.bool q) = W := ⟨_, rfl⟩
    rw [hWF] at hZ hG hP ⊢
    obtain ⟨z0, z1, z2, -, -, -⟩ := cells3 hZ
    exact bodyPost_ret (v := .agg #[.string ⟨#[]⟩, .bool false, .bool q]) (by simp [results, Tryd.results34, go_sem, z0, z1, z2]) rfl ⟨rfl, hG, hP⟩
set_option maxRecDepth 100000 in
set_option maxHeartbeats 1000000 in
theorem ans_alias (P : Par) (b : Nat) (k v : ByteArray) (w : World) (hb : w.heap[b]? = some (.cells (parCells P) 32 (0, 0))) (hk : k.toList = [73, 110, 105, 116, 105, 97, 116, 111, 114, 65, 108, 105, 97, 115]) :
    Calls Tryd.prog 34 #[.pointer (some ⟨b, 0, none⟩), .string k, .string v] w (AnsTo w b (parCells P, ⟨⟨#[]⟩, false, true⟩)) := by
  have hbl : b < w.heap.size := (Array.getElem?_eq_some_iff.1 hb).1
  have b1 := box_below w (.cells #[.pointer (some ⟨b, 0, none⟩)] 88)
  have hc1 := blk_new w (.cells #[.pointer (some ⟨b, 0, none⟩)] 88)
  obtain ⟨W1, hW1⟩ : ∃ W, w.alloc (.cells #[.pointer (some ⟨b, 0, none⟩)] 88) = W := ⟨_, rfl⟩
  rw [hW1] at b1 hc1
  have hs1 := hsz_of hW1
  have b2 := box_below W1 (.cells #[.string ⟨#[]⟩, .bool false, .bool false] 65)
  have hZ := blk_new W1 (.cells #[.string ⟨#[]⟩, .bool false, .bool false] 65)
  have hc2 := blk_keep b2 hc1
  have hp2 := blk_keep b2 (blk_keep b1 hb)
  obtain ⟨W2, hW2⟩ : ∃ W, W1.alloc (.cells #[.string ⟨#[]⟩, .bool false, .bool false] 65) = W := ⟨_, rfl⟩
  rw [hW2] at b2 hZ hc2 hp2
  have hbW := below_then b1 b2
  obtain ⟨cc, -⟩ := cells1 hc2
  obtain ⟨r0, r1, r2, f0, f1, f2⟩ := cells3 hZ
  have Hbl := Lib.hid (And.intro hbl hs1)
  have H := Lib.hid (And.intro hbW (And.intro hZ (And.intro hp2 hc2)))
  have Hb := Lib.hid hb
  clear b1 hc1 b2 hZ hc2 hp2 hbW hb hs1
  go_enter Tryd.func34, Tryd.ntmps34
  go_wp2_with fail
  have hZ := set3 H.out.2.1 (.string ⟨#[]⟩) (.bool false) (.bool true)
  have hG := grown3 (grown_of_below H.out.1 (some b)) (show w.heap.size ≤ W1.heap.size by have := Hbl.out.2; omega) (.string ⟨#[]⟩) (.bool false) (.bool true)
  have hP := set3_other H.out.2.2.1 (show W1.heap.size ≠ b by have := Hbl.out; omega) (.string ⟨#[]⟩) (.bool false) (.bool true)
  obtain ⟨WF, hWF⟩ : ∃ W, ((W2.setCell ⟨W1.heap.size, 0, none⟩ (.string ⟨#[]⟩)).setCell ⟨W1.heap.size, 1, none⟩ (.bool false)).setCell ⟨W1.heap.size, 2, none⟩ (.bool true) = W := ⟨_, rfl⟩
  rw [hWF] at hZ hG hP ⊢
  obtain ⟨z0, z1, z2, -, -, -⟩ := cells3 hZ
  exact bodyPost_ret (v := .agg #[.string ⟨#[]⟩, .bool false, .bool true]) (by simp [results, Tryd.results34, go_sem, z0, z1, z2]) rfl ⟨rfl, hG, hP⟩
set_option maxRecDepth 100000 in
set_option maxHeartbeats 1000000 in
theorem ans_auth (P : Par) (b : Nat) (k v : ByteArray) (w : World) (hb : w.heap[b]? = some (.cells (parCells P) 32 (0, 0))) (hs : v.size < 4294967281) (hm : Mx w) (hk : k.toList = [65, 117, 116, 104, 77, 101, 116, 104, 111, 100]) :
    Calls Tryd.prog 34 #[.pointer (some ⟨b, 0, none⟩), .string k, .string v] w (AnsTo w b (parCells P, ⟨authS (wordsB v), true, true⟩)) := by
  have hbl : b < w.heap.size := (Array.getElem?_eq_some_iff.1 hb).1
  have b1 := box_below w (.cells #[.pointer (some ⟨b, 0, none⟩)] 88)
  have hc1 := blk_new w (.cells #[.pointer (some ⟨b, 0, none⟩)] 88)
  obtain ⟨W1, hW1⟩ : ∃ W, w.alloc (.cells #[.pointer (some ⟨b, 0, none⟩)] 88) = W := ⟨_, rfl⟩
  rw [hW1] at b1 hc1
  have hs1 := hsz_of hW1
  have b2 := box_below W1 (.cells #[.string ⟨#[]⟩, .bool false, .bool false] 65)
  have hZ := blk_new W1 (.cells #[.string ⟨#[]⟩, .bool false, .bool false] 65)
  have hc2 := blk_keep b2 hc1
  have hp2 := blk_keep b2 (blk_keep b1 hb)
  obtain ⟨W2, hW2⟩ : ∃ W, W1.alloc (.cells #[.string ⟨#[]⟩, .bool false, .bool false] 65) = W := ⟨_, rfl⟩
  rw [hW2] at b2 hZ hc2 hp2
  have hbW := below_then b1 b2
  obtain ⟨cc, -⟩ := cells1 hc2
  obtain ⟨r0, r1, r2, f0, f1, f2⟩ := cells3 hZ
  have Hbl := Lib.hid (And.intro hbl hs1)
  have H := Lib.hid (And.intro hbW (And.intro hZ (And.intro hp2 hc2)))
  have Hb := Lib.hid hb
  clear b1 hc1 b2 hZ hc2 hp2 hbW hb hs1
  have hsp := split_any v W2 hs (hm.keep H.out.1)
  have hwl := wordsB_len v
  have hcl := Lib.countB_le comma (by decide) v.size v (Nat.le_refl _)
  obtain ⟨ws, hws⟩ : ∃ ws, ws = wordsB v := ⟨_, rfl⟩
  rw [← hws] at hsp hwl ⊢
  have Hsp := Lib.hid hsp
  have Hl := Lib.hid (show ws.length ≤ 4294967281 by omega)
  clear hsp hwl hcl hws hm hs
  go_enter Tryd.func34, Tryd.ntmps34
  go_wp2_with fail
  refine Hsp.out.mono ?_
  rintro _ W3 ⟨rfl, hb3, hrow⟩
  have HC := Lib.hid (cont_any W2.heap.size ws _ W3 hrow Hl.out)
  have H3 := Lib.hid (And.intro (blk_keep hb3 H.out.2.1) (And.intro (blk_keep hb3 H.out.2.2.1) (below_then H.out.1 hb3)))
  clear hb3 hrow
  cases hw : ws.any isNone with
  | true =>
    rw [hw] at HC
    have hif : authS ws = noneS := by unfold authS; rw [hw]; rfl
    have Hif := Lib.hid hif
    clear hw hif
    go_wp2_with fail
    refine HC.out.mono ?_
    rintro _ _ ⟨rfl, rfl⟩
    go_wp2_with fail
    refine (tell_any noneS _).mono ?_
    rintro _ W4 ⟨rfl, hb4⟩
    have hr4 := blk_keep hb4 H3.out.1
    obtain ⟨r0, r1, r2, f0, f1, f2⟩ := cells3 hr4
    have H4 := Lib.hid (And.intro hr4 (And.intro (blk_keep hb4 H3.out.2.1) (below_then H3.out.2.2 hb4)))
    clear hr4 hb4
    go_wp2_with fail
    have hZ := set3 H4.out.1 (.string noneS) (.bool true) (.bool true)
    have hG := grown3 (grown_of_below H4.out.2.2 (some b)) (show w.heap.size ≤ W1.heap.size by have := Hbl.out.2; omega) (.string noneS) (.bool true) (.bool true)
    have hP := set3_other H4.out.2.1 (show W1.heap.size ≠ b by have := Hbl.out; omega) (.string noneS) (.bool true) (.bool true)
    obtain ⟨WF, hWF⟩ : ∃ W, ((W4.setCell ⟨W1.heap.size, 0, none⟩ (.string noneS)).setCell ⟨W1.heap.size, 1, none⟩ (.bool true)).setCell ⟨W1.heap.size, 2, none⟩ (.bool true) = W := ⟨_, rfl⟩
    rw [hWF] at hZ hG hP ⊢
    obtain ⟨z0, z1, z2, -, -, -⟩ := cells3 hZ
    exact bodyPost_ret (v := .agg #[.string noneS, .bool true, .bool true]) (by simp [results, Tryd.results34, go_sem, z0, z1, z2]) rfl ⟨(by rw [Hif.out]; rfl), hG, hP⟩
  | false =>
    rw [hw] at HC
    have hif : authS ws = rejS := by unfold authS; rw [hw]; rfl
    have Hif := Lib.hid hif
    clear hw hif
    go_wp2_with fail
    refine HC.out.mono ?_
    rintro _ _ ⟨rfl, rfl⟩
    go_wp2_with fail
    refine (tell_any rejS _).mono ?_
    rintro _ W4 ⟨rfl, hb4⟩
    have hr4 := blk_keep hb4 H3.out.1
    obtain ⟨r0, r1, r2, f0, f1, f2⟩ := cells3 hr4
    have H4 := Lib.hid (And.intro hr4 (And.intro (blk_keep hb4 H3.out.2.1) (below_then H3.out.2.2 hb4)))
    clear hr4 hb4
    go_wp2_with fail
    have hZ := set3 H4.out.1 (.string rejS) (.bool true) (.bool true)
    have hG := grown3 (grown_of_below H4.out.2.2 (some b)) (show w.heap.size ≤ W1.heap.size by have := Hbl.out.2; omega) (.string rejS) (.bool true) (.bool true)
    have hP := set3_other H4.out.2.1 (show W1.heap.size ≠ b by have := Hbl.out; omega) (.string rejS) (.bool true) (.bool true)
    obtain ⟨WF, hWF⟩ : ∃ W, ((W4.setCell ⟨W1.heap.size, 0, none⟩ (.string rejS)).setCell ⟨W1.heap.size, 1, none⟩ (.bool true)).setCell ⟨W1.heap.size, 2, none⟩ (.bool true) = W := ⟨_, rfl⟩
    rw [hWF] at hZ hG hP ⊢
    obtain ⟨z0, z1, z2, -, -, -⟩ := cells3 hZ
    exact bodyPost_ret (v := .agg #[.string rejS, .bool true, .bool true]) (by simp [results, Tryd.results34, go_sem, z0, z1, z2]) rfl ⟨(by rw [Hif.out]; rfl), hG, hP⟩
set_option maxRecDepth 100000 in
set_option maxHeartbeats 1000000 in
theorem ans_head (P : Par) (b : Nat) (k v : ByteArray) (w : World) (hb : w.heap[b]? = some (.cells (parCells P) 32 (0, 0))) (hs : v.size < 4294967281) (hm : Mx w) (hk : k.toList = [72, 101, 97, 100, 101, 114, 68, 105, 103, 101, 115, 116]) :
    Calls Tryd.prog 34 #[.pointer (some ⟨b, 0, none⟩), .string k, .string v] w (AnsTo w b (digAns (parCells P) 0 (wordsB v))) := by
  have hbl : b < w.heap.size := (Array.getElem?_eq_some_iff.1 hb).1
  have b1 := box_below w (.cells #[.pointer (some ⟨b, 0, none⟩)] 88)
  have hc1 := blk_new w (.cells #[.pointer (some ⟨b, 0, none⟩)] 88)
  obtain ⟨W1, hW1⟩ : ∃ W, w.alloc (.cells #[.pointer (some ⟨b, 0, none⟩)] 88) = W := ⟨_, rfl⟩
  rw [hW1] at b1 hc1
  have hs1 := hsz_of hW1
  have b2 := box_below W1 (.cells #[.string ⟨#[]⟩, .bool false, .bool false] 65)
  have hZ := blk_new W1 (.cells #[.string ⟨#[]⟩, .bool false, .bool false] 65)
  have hc2 := blk_keep b2 hc1
  have hp2 := blk_keep b2 (blk_keep b1 hb)
  obtain ⟨W2, hW2⟩ : ∃ W, W1.alloc (.cells #[.string ⟨#[]⟩, .bool false, .bool false] 65) = W := ⟨_, rfl⟩
  rw [hW2] at b2 hZ hc2 hp2
  have hbW := below_then b1 b2
  obtain ⟨cc, -⟩ := cells1 hc2
  obtain ⟨r0, r1, r2, f0, f1, f2⟩ := cells3 hZ
  have Hbl := Lib.hid (And.intro hbl hs1)
  have H := Lib.hid (And.intro hbW (And.intro hZ (And.intro hp2 hc2)))
  have Hb := Lib.hid hb
  clear b1 hc1 b2 hZ hc2 hp2 hbW hb hs1
  obtain ⟨⟨rc, av, at_, ao⟩, hRR⟩ : ∃ r, digAns (parCells P) 0 (wordsB v) = r := ⟨_, rfl⟩
  rw [hRR]
  have hX := digest_any b 0 (parCells P) P.hs v W2 H.out.2.2.1 rfl hs (hm.keep H.out.1)
  rw [hRR] at hX
  have HX := Lib.hid hX
  have H9 := Lib.hid (And.intro H.out.2.1 H.out.1)
  clear hX hRR hs hm
  go_enter Tryd.func34, Tryd.ntmps34
  go_wp2_with fail
  refine HX.out.mono ?_
  rintro _ W9 ⟨rfl, hg, hh⟩
  have hr9 := grown_blk hg (b := W1.heap.size) (by intro h; injection h with h; have := Hbl.out; omega) H9.out.1
  obtain ⟨r0, r1, r2, f0, f1, f2⟩ := cells3 hr9
  have H10 := Lib.hid (And.intro hr9 (And.intro (grown_belowR H9.out.2 hg (fun k hk => by injection hk with hk; have := Hbl.out; omega)) hh))
  clear hr9 hg hh
  simp only [ansV]
  go_wp2_with fail
  have hZ := set3 H10.out.1 (.string av) (.bool at_) (.bool ao)
  have hG := grown3 H10.out.2.1 (show w.heap.size ≤ W1.heap.size by have := Hbl.out.2; omega) (.string av) (.bool at_) (.bool ao)
  have hP := set3_other H10.out.2.2 (show W1.heap.size ≠ b by have := Hbl.out; omega) (.string av) (.bool at_) (.bool ao)
  obtain ⟨WF, hWF⟩ : ∃ W, ((W9.setCell ⟨W1.heap.size, 0, none⟩ (.string av)).setCell ⟨W1.heap.size, 1, none⟩ (.bool at_)).setCell ⟨W1.heap.size, 2, none⟩ (.bool ao) = W := ⟨_, rfl⟩
  rw [hWF] at hZ hG hP ⊢
  obtain ⟨z0, z1, z2, -, -, -⟩ := cells3 hZ
  exact bodyPost_ret (v := .agg #[.string av, .bool at_, .bool ao]) (by simp [results, Tryd.results34, go_sem, z0, z1, z2]) rfl ⟨rfl, hG, hP⟩
set_option maxRecDepth 100000 in
set_option maxHeartbeats 1000000 in
theorem ans_data (P : Par) (b : Nat) (k v : ByteArray) (w : World) (hb : w.heap[b]? = some (.cells (parCells P) 32 (0, 0))) (hs : v.size < 4294967281) (hm : Mx w) (hk : k.toList = [68, 97, 116, 97, 68, 105, 103, 101, 115, 116]) :
    Calls Tryd.prog 34 #[.pointer (some ⟨b, 0, none⟩), .string k, .string v] w (AnsTo w b (digAns (parCells P) 1 (wordsB v))) := by
  have hbl : b < w.heap.size := (Array.getElem?_eq_some_iff.1 hb).1
  have b1 := box_below w (.cells #[.pointer (some ⟨b, 0, none⟩)] 88)
  have hc1 := blk_new w (.cells #[.pointer (some ⟨b, 0, none⟩)] 88)
  obtain ⟨W1, hW1⟩ : ∃ W, w.alloc (.cells #[.pointer (some ⟨b, 0, none⟩)] 88) = W := ⟨_, rfl⟩
  rw [hW1] at b1 hc1
  have hs1 := hsz_of hW1
  have b2 := box_below W1 (.cells #[.string ⟨#[]⟩, .bool false, .bool false] 65)
  have hZ := blk_new W1 (.cells #[.string ⟨#[]⟩, .bool false, .bool false] 65)
  have hc2 := blk_keep b2 hc1
  have hp2 := blk_keep b2 (blk_keep b1 hb)
  obtain ⟨W2, hW2⟩ : ∃ W, W1.alloc (.cells #[.string ⟨#[]⟩, .bool false, .bool false] 65) = W := ⟨_, rfl⟩
  rw [hW2] at b2 hZ hc2 hp2
  have hbW := below_then b1 b2
  obtain ⟨cc, -⟩ := cells1 hc2
  obtain ⟨r0, r1, r2, f0, f1, f2⟩ := cells3 hZ
  have Hbl := Lib.hid (And.intro hbl hs1)
  have H := Lib.hid (And.intro hbW (And.intro hZ (And.intro hp2 hc2)))
  have Hb := Lib.hid hb
  clear b1 hc1 b2 hZ hc2 hp2 hbW hb hs1
  obtain ⟨⟨rc, av, at_, ao⟩, hRR⟩ : ∃ r, digAns (parCells P) 1 (wordsB v) = r := ⟨_, rfl⟩
  rw [hRR]
  have hX := digest_any b 1 (parCells P) P.ds v W2 H.out.2.2.1 rfl hs (hm.keep H.out.1)
  rw [hRR] at hX
  have HX := Lib.hid hX
  have H9 := Lib.hid (And.intro H.out.2.1 H.out.1)
  clear hX hRR hs hm
  go_enter Tryd.func34, Tryd.ntmps34
  go_wp2_with fail
  refine HX.out.mono ?_
  rintro _ W9 ⟨rfl, hg, hh⟩
  have hr9 := grown_blk hg (b := W1.heap.size) (by intro h; injection h with h; have := Hbl.out; omega) H9.out.1
  obtain ⟨r0, r1, r2, f0, f1, f2⟩ := cells3 hr9
  have H10 := Lib.hid (And.intro hr9 (And.intro (grown_belowR H9.out.2 hg (fun k hk => by injection hk with hk; have := Hbl.out; omega)) hh))
  clear hr9 hg hh
  simp only [ansV]
  go_wp2_with fail
  have hZ := set3 H10.out.1 (.string av) (.bool at_) (.bool ao)
  have hG := grown3 H10.out.2.1 (show w.heap.size ≤ W1.heap.size by have := Hbl.out.2; omega) (.string av) (.bool at_) (.bool ao)
  have hP := set3_other H10.out.2.2 (show W1.heap.size ≠ b by have := Hbl.out; omega) (.string av) (.bool at_) (.bool ao)
  obtain ⟨WF, hWF⟩ : ∃ W, ((W9.setCell ⟨W1.heap.size, 0, none⟩ (.string av)).setCell ⟨W1.heap.size, 1, none⟩ (.bool at_)).setCell ⟨W1.heap.size, 2, none⟩ (.bool ao) = W := ⟨_, rfl⟩
  rw [hWF] at hZ hG hP ⊢
  obtain ⟨z0, z1, z2, -, -, -⟩ := cells3 hZ
  exact bodyPost_ret (v := .agg #[.string av, .bool at_, .bool ao]) (by simp [results, Tryd.results34, go_sem, z0, z1, z2]) rfl ⟨rfl, hG, hP⟩
set_option maxRecDepth 100000 in
set_option maxHeartbeats 1000000 in
theorem ans_most (P : Par) (b : Nat) (k v : ByteArray) (w : World) (hb : w.heap[b]? = some (.cells (parCells P) 32 (0, 0))) (hk : k.toList = [77, 97, 120, 82, 101, 99, 118, 68, 97, 116, 97, 83, 101, 103, 109, 101, 110, 116, 76, 101, 110, 103, 116, 104]) :
    Calls Tryd.prog 34 #[.pointer (some ⟨b, 0, none⟩), .string k, .string v] w (AnsTo w b (numAns (parCells P) v 512 16777215 fun n => ((parCells P).setIfInBounds 2 (.int .i64 (if 65536 < n then 65536 else n)), ⟨⟨#[]⟩, false, true⟩))) := by
  have hbl : b < w.heap.size := (Array.getElem?_eq_some_iff.1 hb).1
  have b1 := box_below w (.cells #[.pointer (some ⟨b, 0, none⟩)] 88)
  have hc1 := blk_new w (.cells #[.pointer (some ⟨b, 0, none⟩)] 88)
  obtain ⟨W1, hW1⟩ : ∃ W, w.alloc (.cells #[.pointer (some ⟨b, 0, none⟩)] 88) = W := ⟨_, rfl⟩
  rw [hW1] at b1 hc1
  have hs1 := hsz_of hW1
  have b2 := box_below W1 (.cells #[.string ⟨#[]⟩, .bool false, .bool false] 65)
  have hZ := blk_new W1 (.cells #[.string ⟨#[]⟩, .bool false, .bool false] 65)
  have hc2 := blk_keep b2 hc1
  have hp2 := blk_keep b2 (blk_keep b1 hb)
  obtain ⟨W2, hW2⟩ : ∃ W, W1.alloc (.cells #[.string ⟨#[]⟩, .bool false, .bool false] 65) = W := ⟨_, rfl⟩
  rw [hW2] at b2 hZ hc2 hp2
  have hbW := below_then b1 b2
  obtain ⟨cc, -⟩ := cells1 hc2
  obtain ⟨r0, r1, r2, f0, f1, f2⟩ := cells3 hZ
  have Hbl := Lib.hid (And.intro hbl hs1)
  have H := Lib.hid (And.intro hbW (And.intro hZ (And.intro hp2 hc2)))
  have Hb := Lib.hid hb
  clear b1 hc1 b2 hZ hc2 hp2 hbW hb hs1
  obtain ⟨⟨rc, av, at_, ao⟩, hRR⟩ : ∃ r, (numAns (parCells P) v 512 16777215 fun n => ((parCells P).setIfInBounds 2 (.int .i64 (if 65536 < n then 65536 else n)), ⟨⟨#[]⟩, false, true⟩)) = r := ⟨_, rfl⟩
  rw [hRR]
  have hX := nmost_to b w.heap.size (parCells P) P.mo v 512 16777215 _ W2 H.out.2.2.1 rfl H.out.2.2.2 (by have := Hbl.out; omega)
  rw [hRR] at hX
  have HX := Lib.hid hX
  have H9 := Lib.hid (And.intro H.out.2.1 H.out.1)
  clear hX hRR
  go_enter Tryd.func34, Tryd.ntmps34
  go_wp2_with fail
  refine HX.out.mono ?_
  rintro _ W9 ⟨rfl, hg, hh⟩
  have hr9 := grown_blk hg (b := W1.heap.size) (by intro h; injection h with h; have := Hbl.out; omega) H9.out.1
  obtain ⟨r0, r1, r2, f0, f1, f2⟩ := cells3 hr9
  have H10 := Lib.hid (And.intro hr9 (And.intro (grown_belowR H9.out.2 hg (fun k hk => by injection hk with hk; have := Hbl.out; omega)) hh))
  clear hr9 hg hh
  simp only [ansV]
  go_wp2_with fail
  have hZ := set3 H10.out.1 (.string av) (.bool at_) (.bool ao)
  have hG := grown3 H10.out.2.1 (show w.heap.size ≤ W1.heap.size by have := Hbl.out.2; omega) (.string av) (.bool at_) (.bool ao)
  have hP := set3_other H10.out.2.2 (show W1.heap.size ≠ b by have := Hbl.out; omega) (.string av) (.bool at_) (.bool ao)
  obtain ⟨WF, hWF⟩ : ∃ W, ((W9.setCell ⟨W1.heap.size, 0, none⟩ (.string av)).setCell ⟨W1.heap.size, 1, none⟩ (.bool at_)).setCell ⟨W1.heap.size, 2, none⟩ (.bool ao) = W := ⟨_, rfl⟩
  rw [hWF] at hZ hG hP ⊢
  obtain ⟨z0, z1, z2, -, -, -⟩ := cells3 hZ
  exact bodyPost_ret (v := .agg #[.string av, .bool at_, .bool ao]) (by simp [results, Tryd.results34, go_sem, z0, z1, z2]) rfl ⟨rfl, hG, hP⟩
set_option maxRecDepth 100000 in
set_option maxHeartbeats 1000000 in
theorem ans_burst (P : Par) (b : Nat) (k v : ByteArray) (w : World) (hb : w.heap[b]? = some (.cells (parCells P) 32 (0, 0))) (hin : in64 P.bu) (hk : k.toList = [77, 97, 120, 66, 117, 114, 115, 116, 76, 101, 110, 103, 116, 104]) :
    Calls Tryd.prog 34 #[.pointer (some ⟨b, 0, none⟩), .string k, .string v] w (AnsTo w b (numAns (parCells P) v 512 16777215 fun n => ((parCells P).setIfInBounds 4 (.int .i64 (if n < P.bu then n else P.bu)), ⟨⟨(digP (if n < P.bu then n else P.bu)).toArray⟩, true, true⟩))) := by
  have hbl : b < w.heap.size := (Array.getElem?_eq_some_iff.1 hb).1
  have b1 := box_below w (.cells #[.pointer (some ⟨b, 0, none⟩)] 88)
  have hc1 := blk_new w (.cells #[.pointer (some ⟨b, 0, none⟩)] 88)
  obtain ⟨W1, hW1⟩ : ∃ W, w.alloc (.cells #[.pointer (some ⟨b, 0, none⟩)] 88) = W := ⟨_, rfl⟩
  rw [hW1] at b1 hc1
  have hs1 := hsz_of hW1
  have b2 := box_below W1 (.cells #[.string ⟨#[]⟩, .bool false, .bool false] 65)
  have hZ := blk_new W1 (.cells #[.string ⟨#[]⟩, .bool false, .bool false] 65)
  have hc2 := blk_keep b2 hc1
  have hp2 := blk_keep b2 (blk_keep b1 hb)
  obtain ⟨W2, hW2⟩ : ∃ W, W1.alloc (.cells #[.string ⟨#[]⟩, .bool false, .bool false] 65) = W := ⟨_, rfl⟩
  rw [hW2] at b2 hZ hc2 hp2
  have hbW := below_then b1 b2
  obtain ⟨cc, -⟩ := cells1 hc2
  obtain ⟨r0, r1, r2, f0, f1, f2⟩ := cells3 hZ
  have Hbl := Lib.hid (And.intro hbl hs1)
  have H := Lib.hid (And.intro hbW (And.intro hZ (And.intro hp2 hc2)))
  have Hb := Lib.hid hb
  clear b1 hc1 b2 hZ hc2 hp2 hbW hb hs1
  obtain ⟨⟨rc, av, at_, ao⟩, hRR⟩ : ∃ r, (numAns (parCells P) v 512 16777215 fun n => ((parCells P).setIfInBounds 4 (.int .i64 (if n < P.bu then n else P.bu)), ⟨⟨(digP (if n < P.bu then n else P.bu)).toArray⟩, true, true⟩)) = r := ⟨_, rfl⟩
  rw [hRR]
  have HR := Lib.hid hRR
  have Hin := Lib.hid hin
  clear hRR hin
  go_enter Tryd.func34, Tryd.ntmps34
  go_wp2_with fail
  refine (size_any b 4 W2).mono ?_
  rintro _ W3 ⟨rfl, hb3, tp, hc3⟩
  have hX := nsize_to b W2.heap.size 4 (parCells P) P.bu v 512 16777215 tp W3 (blk_keep hb3 H.out.2.2.1) rfl hc3 Hin.out (by have := H.out.1.size; have := Hbl.out; omega) (by omega) (by omega)
  rw [HR.out] at hX
  have HX := Lib.hid hX
  have H9 := Lib.hid (And.intro (blk_keep hb3 H.out.2.1) (below_then H.out.1 hb3))
  clear hX hb3 hc3
  go_wp2_with fail
  refine HX.out.mono ?_
  rintro _ W9 ⟨rfl, hg, hh⟩
  have hr9 := grown_blk hg (b := W1.heap.size) (by intro h; injection h with h; have := Hbl.out; omega) H9.out.1
  obtain ⟨r0, r1, r2, f0, f1, f2⟩ := cells3 hr9
  have H10 := Lib.hid (And.intro hr9 (And.intro (grown_belowR H9.out.2 hg (fun k hk => by injection hk with hk; have := Hbl.out; omega)) hh))
  clear hr9 hg hh
  simp only [ansV]
  go_wp2_with fail
  have hZ := set3 H10.out.1 (.string av) (.bool at_) (.bool ao)
  have hG := grown3 H10.out.2.1 (show w.heap.size ≤ W1.heap.size by have := Hbl.out.2; omega) (.string av) (.bool at_) (.bool ao)
  have hP := set3_other H10.out.2.2 (show W1.heap.size ≠ b by have := Hbl.out; omega) (.string av) (.bool at_) (.bool ao)
  obtain ⟨WF, hWF⟩ : ∃ W, ((W9.setCell ⟨W1.heap.size, 0, none⟩ (.string av)).setCell ⟨W1.heap.size, 1, none⟩ (.bool at_)).setCell ⟨W1.heap.size, 2, none⟩ (.bool ao) = W := ⟨_, rfl⟩
  rw [hWF] at hZ hG hP ⊢
  obtain ⟨z0, z1, z2, -, -, -⟩ := cells3 hZ
  exact bodyPost_ret (v := .agg #[.string av, .bool at_, .bool ao]) (by simp [results, Tryd.results34, go_sem, z0, z1, z2]) rfl ⟨rfl, hG, hP⟩
set_option maxRecDepth 100000 in
set_option maxHeartbeats 1000000 in
theorem ans_first (P : Par) (b : Nat) (k v : ByteArray) (w : World) (hb : w.heap[b]? = some (.cells (parCells P) 32 (0, 0))) (hin : in64 P.fi) (hk : k.toList = [70, 105, 114, 115, 116, 66, 117, 114, 115, 116, 76, 101, 110, 103, 116, 104]) :
    Calls Tryd.prog 34 #[.pointer (some ⟨b, 0, none⟩), .string k, .string v] w (AnsTo w b (numAns (parCells P) v 512 16777215 fun n => ((parCells P).setIfInBounds 5 (.int .i64 (if n < P.fi then n else P.fi)), ⟨⟨(digP (if n < P.fi then n else P.fi)).toArray⟩, true, true⟩))) := by
  have hbl : b < w.heap.size := (Array.getElem?_eq_some_iff.1 hb).1
  have b1 := box_below w (.cells #[.pointer (some ⟨b, 0, none⟩)] 88)
  have hc1 := blk_new w (.cells #[.pointer (some ⟨b, 0, none⟩)] 88)
  obtain ⟨W1, hW1⟩ : ∃ W, w.alloc (.cells #[.pointer (some ⟨b, 0, none⟩)] 88) = W := ⟨_, rfl⟩
  rw [hW1] at b1 hc1
  have hs1 := hsz_of hW1
  have b2 := box_below W1 (.cells #[.string ⟨#[]⟩, .bool false, .bool false] 65)
  have hZ := blk_new W1 (.cells #[.string ⟨#[]⟩, .bool false, .bool false] 65)
  have hc2 := blk_keep b2 hc1
  have hp2 := blk_keep b2 (blk_keep b1 hb)
  obtain ⟨W2, hW2⟩ : ∃ W, W1.alloc (.cells #[.string ⟨#[]⟩, .bool false, .bool false] 65) = W := ⟨_, rfl⟩
  rw [hW2] at b2 hZ hc2 hp2
  have hbW := below_then b1 b2
  obtain ⟨cc, -⟩ := cells1 hc2
  obtain ⟨r0, r1, r2, f0, f1, f2⟩ := cells3 hZ
  have Hbl := Lib.hid (And.intro hbl hs1)
  have H := Lib.hid (And.intro hbW (And.intro hZ (And.intro hp2 hc2)))
  have Hb := Lib.hid hb
  clear b1 hc1 b2 hZ hc2 hp2 hbW hb hs1
  obtain ⟨⟨rc, av, at_, ao⟩, hRR⟩ : ∃ r, (numAns (parCells P) v 512 16777215 fun n => ((parCells P).setIfInBounds 5 (.int .i64 (if n < P.fi then n else P.fi)), ⟨⟨(digP (if n < P.fi then n else P.fi)).toArray⟩, true, true⟩)) = r := ⟨_, rfl⟩
  rw [hRR]
  have HR := Lib.hid hRR
  have Hin := Lib.hid hin
  clear hRR hin
  go_enter Tryd.func34, Tryd.ntmps34
  go_wp2_with fail
  refine (size_any b 5 W2).mono ?_
  rintro _ W3 ⟨rfl, hb3, tp, hc3⟩
  have hX := nsize_to b W2.heap.size 5 (parCells P) P.fi v 512 16777215 tp W3 (blk_keep hb3 H.out.2.2.1) rfl hc3 Hin.out (by have := H.out.1.size; have := Hbl.out; omega) (by omega) (by omega)
  rw [HR.out] at hX
  have HX := Lib.hid hX
  have H9 := Lib.hid (And.intro (blk_keep hb3 H.out.2.1) (below_then H.out.1 hb3))
  clear hX hb3 hc3
  go_wp2_with fail
  refine HX.out.mono ?_
  rintro _ W9 ⟨rfl, hg, hh⟩
  have hr9 := grown_blk hg (b := W1.heap.size) (by intro h; injection h with h; have := Hbl.out; omega) H9.out.1
  obtain ⟨r0, r1, r2, f0, f1, f2⟩ := cells3 hr9
  have H10 := Lib.hid (And.intro hr9 (And.intro (grown_belowR H9.out.2 hg (fun k hk => by injection hk with hk; have := Hbl.out; omega)) hh))
  clear hr9 hg hh
  simp only [ansV]
  go_wp2_with fail
  have hZ := set3 H10.out.1 (.string av) (.bool at_) (.bool ao)
  have hG := grown3 H10.out.2.1 (show w.heap.size ≤ W1.heap.size by have := Hbl.out.2; omega) (.string av) (.bool at_) (.bool ao)
  have hP := set3_other H10.out.2.2 (show W1.heap.size ≠ b by have := Hbl.out; omega) (.string av) (.bool at_) (.bool ao)
  obtain ⟨WF, hWF⟩ : ∃ W, ((W9.setCell ⟨W1.heap.size, 0, none⟩ (.string av)).setCell ⟨W1.heap.size, 1, none⟩ (.bool at_)).setCell ⟨W1.heap.size, 2, none⟩ (.bool ao) = W := ⟨_, rfl⟩
  rw [hWF] at hZ hG hP ⊢
  obtain ⟨z0, z1, z2, -, -, -⟩ := cells3 hZ
  exact bodyPost_ret (v := .agg #[.string av, .bool at_, .bool ao]) (by simp [results, Tryd.results34, go_sem, z0, z1, z2]) rfl ⟨rfl, hG, hP⟩
set_option maxRecDepth 100000 in
set_option maxHeartbeats 1000000 in
theorem ans_conn (P : Par) (b : Nat) (k v : ByteArray) (w : World) (hb : w.heap[b]? = some (.cells (parCells P) 32 (0, 0))) (hk : k.toList = [77, 97, 120, 67, 111, 110, 110, 101, 99, 116, 105, 111, 110, 115]) :
    Calls Tryd.prog 34 #[.pointer (some ⟨b, 0, none⟩), .string k, .string v] w (AnsTo w b (numAns (parCells P) v 1 65535 fun _ => (parCells P, ⟨⟨#[49]⟩, true, true⟩))) := by
  have hbl : b < w.heap.size := (Array.getElem?_eq_some_iff.1 hb).1
  have b1 := box_below w (.cells #[.pointer (some ⟨b, 0, none⟩)] 88)
  have hc1 := blk_new w (.cells #[.pointer (some ⟨b, 0, none⟩)] 88)
  obtain ⟨W1, hW1⟩ : ∃ W, w.alloc (.cells #[.pointer (some ⟨b, 0, none⟩)] 88) = W := ⟨_, rfl⟩
  rw [hW1] at b1 hc1
  have hs1 := hsz_of hW1
  have b2 := box_below W1 (.cells #[.string ⟨#[]⟩, .bool false, .bool false] 65)
  have hZ := blk_new W1 (.cells #[.string ⟨#[]⟩, .bool false, .bool false] 65)
  have hc2 := blk_keep b2 hc1
  have hp2 := blk_keep b2 (blk_keep b1 hb)
  obtain ⟨W2, hW2⟩ : ∃ W, W1.alloc (.cells #[.string ⟨#[]⟩, .bool false, .bool false] 65) = W := ⟨_, rfl⟩
  rw [hW2] at b2 hZ hc2 hp2
  have hbW := below_then b1 b2
  obtain ⟨cc, -⟩ := cells1 hc2
  obtain ⟨r0, r1, r2, f0, f1, f2⟩ := cells3 hZ
  have Hbl := Lib.hid (And.intro hbl hs1)
  have H := Lib.hid (And.intro hbW (And.intro hZ (And.intro hp2 hc2)))
  have Hb := Lib.hid hb
  clear b1 hc1 b2 hZ hc2 hp2 hbW hb hs1
  obtain ⟨⟨rc, av, at_, ao⟩, hRR⟩ : ∃ r, (numAns (parCells P) v 1 65535 fun _ => (parCells P, ⟨⟨#[49]⟩, true, true⟩)) = r := ⟨_, rfl⟩
  rw [hRR]
  have HR := Lib.hid hRR
  clear hRR
  go_enter Tryd.func34, Tryd.ntmps34
  go_wp2_with fail
  refine (always_any ⟨#[49]⟩ W2).mono ?_
  rintro _ W3 ⟨rfl, hb3, tp, hc3⟩
  have hX := nconst_to b W2.heap.size (parCells P) ⟨#[49]⟩ v 1 65535 tp W3 (blk_keep hb3 H.out.2.2.1) hc3
  rw [HR.out] at hX
  have HX := Lib.hid hX
  have H9 := Lib.hid (And.intro (blk_keep hb3 H.out.2.1) (below_then H.out.1 hb3))
  clear hX hb3 hc3
  go_wp2_with fail
  refine HX.out.mono ?_
  rintro _ W9 ⟨rfl, hg, hh⟩
  have hr9 := grown_blk hg (b := W1.heap.size) (by intro h; injection h with h; have := Hbl.out; omega) H9.out.1
  obtain ⟨r0, r1, r2, f0, f1, f2⟩ := cells3 hr9
  have H10 := Lib.hid (And.intro hr9 (And.intro (grown_belowR H9.out.2 hg (fun k hk => by injection hk with hk; have := Hbl.out; omega)) hh))
  clear hr9 hg hh
  simp only [ansV]
  go_wp2_with fail
  have hZ := set3 H10.out.1 (.string av) (.bool at_) (.bool ao)
  have hG := grown3 H10.out.2.1 (show w.heap.size ≤ W1.heap.size by have := Hbl.out.2; omega) (.string av) (.bool at_) (.bool ao)
  have hP := set3_other H10.out.2.2 (show W1.heap.size ≠ b by have := Hbl.out; omega) (.string av) (.bool at_) (.bool ao)
  obtain ⟨WF, hWF⟩ : ∃ W, ((W9.setCell ⟨W1.heap.size, 0, none⟩ (.string av)).setCell ⟨W1.heap.size, 1, none⟩ (.bool at_)).setCell ⟨W1.heap.size, 2, none⟩ (.bool ao) = W := ⟨_, rfl⟩
  rw [hWF] at hZ hG hP ⊢
  obtain ⟨z0, z1, z2, -, -, -⟩ := cells3 hZ
  exact bodyPost_ret (v := .agg #[.string av, .bool at_, .bool ao]) (by simp [results, Tryd.results34, go_sem, z0, z1, z2]) rfl ⟨rfl, hG, hP⟩
set_option maxRecDepth 100000 in
set_option maxHeartbeats 1000000 in
theorem ans_out (P : Par) (b : Nat) (k v : ByteArray) (w : World) (hb : w.heap[b]? = some (.cells (parCells P) 32 (0, 0))) (hk : k.toList = [77, 97, 120, 79, 117, 116, 115, 116, 97, 110, 100, 105, 110, 103, 82, 50, 84]) :
    Calls Tryd.prog 34 #[.pointer (some ⟨b, 0, none⟩), .string k, .string v] w (AnsTo w b (numAns (parCells P) v 1 65535 fun _ => (parCells P, ⟨⟨#[49]⟩, true, true⟩))) := by
  have hbl : b < w.heap.size := (Array.getElem?_eq_some_iff.1 hb).1
  have b1 := box_below w (.cells #[.pointer (some ⟨b, 0, none⟩)] 88)
  have hc1 := blk_new w (.cells #[.pointer (some ⟨b, 0, none⟩)] 88)
  obtain ⟨W1, hW1⟩ : ∃ W, w.alloc (.cells #[.pointer (some ⟨b, 0, none⟩)] 88) = W := ⟨_, rfl⟩
  rw [hW1] at b1 hc1
  have hs1 := hsz_of hW1
  have b2 := box_below W1 (.cells #[.string ⟨#[]⟩, .bool false, .bool false] 65)
  have hZ := blk_new W1 (.cells #[.string ⟨#[]⟩, .bool false, .bool false] 65)
  have hc2 := blk_keep b2 hc1
  have hp2 := blk_keep b2 (blk_keep b1 hb)
  obtain ⟨W2, hW2⟩ : ∃ W, W1.alloc (.cells #[.string ⟨#[]⟩, .bool false, .bool false] 65) = W := ⟨_, rfl⟩
  rw [hW2] at b2 hZ hc2 hp2
  have hbW := below_then b1 b2
  obtain ⟨cc, -⟩ := cells1 hc2
  obtain ⟨r0, r1, r2, f0, f1, f2⟩ := cells3 hZ
  have Hbl := Lib.hid (And.intro hbl hs1)
  have H := Lib.hid (And.intro hbW (And.intro hZ (And.intro hp2 hc2)))
  have Hb := Lib.hid hb
  clear b1 hc1 b2 hZ hc2 hp2 hbW hb hs1
  obtain ⟨⟨rc, av, at_, ao⟩, hRR⟩ : ∃ r, (numAns (parCells P) v 1 65535 fun _ => (parCells P, ⟨⟨#[49]⟩, true, true⟩)) = r := ⟨_, rfl⟩
  rw [hRR]
  have HR := Lib.hid hRR
  clear hRR
  go_enter Tryd.func34, Tryd.ntmps34
  go_wp2_with fail
  refine (always_any ⟨#[49]⟩ W2).mono ?_
  rintro _ W3 ⟨rfl, hb3, tp, hc3⟩
  have hX := nconst_to b W2.heap.size (parCells P) ⟨#[49]⟩ v 1 65535 tp W3 (blk_keep hb3 H.out.2.2.1) hc3
  rw [HR.out] at hX
  have HX := Lib.hid hX
  have H9 := Lib.hid (And.intro (blk_keep hb3 H.out.2.1) (below_then H.out.1 hb3))
  clear hX hb3 hc3
  go_wp2_with fail
  refine HX.out.mono ?_
  rintro _ W9 ⟨rfl, hg, hh⟩
  have hr9 := grown_blk hg (b := W1.heap.size) (by intro h; injection h with h; have := Hbl.out; omega) H9.out.1
  obtain ⟨r0, r1, r2, f0, f1, f2⟩ := cells3 hr9
  have H10 := Lib.hid (And.intro hr9 (And.intro (grown_belowR H9.out.2 hg (fun k hk => by injection hk with hk; have := Hbl.out; omega)) hh))
  clear hr9 hg hh
  simp only [ansV]
  go_wp2_with fail
  have hZ := set3 H10.out.1 (.string av) (.bool at_) (.bool ao)
  have hG := grown3 H10.out.2.1 (show w.heap.size ≤ W1.heap.size by have := Hbl.out.2; omega) (.string av) (.bool at_) (.bool ao)
  have hP := set3_other H10.out.2.2 (show W1.heap.size ≠ b by have := Hbl.out; omega) (.string av) (.bool at_) (.bool ao)
  obtain ⟨WF, hWF⟩ : ∃ W, ((W9.setCell ⟨W1.heap.size, 0, none⟩ (.string av)).setCell ⟨W1.heap.size, 1, none⟩ (.bool at_)).setCell ⟨W1.heap.size, 2, none⟩ (.bool ao) = W := ⟨_, rfl⟩
  rw [hWF] at hZ hG hP ⊢
  obtain ⟨z0, z1, z2, -, -, -⟩ := cells3 hZ
  exact bodyPost_ret (v := .agg #[.string av, .bool at_, .bool ao]) (by simp [results, Tryd.results34, go_sem, z0, z1, z2]) rfl ⟨rfl, hG, hP⟩
set_option maxRecDepth 100000 in
set_option maxHeartbeats 1000000 in
theorem ans_erl (P : Par) (b : Nat) (k v : ByteArray) (w : World) (hb : w.heap[b]? = some (.cells (parCells P) 32 (0, 0))) (hk : k.toList = [69, 114, 114, 111, 114, 82, 101, 99, 111, 118, 101, 114, 121, 76, 101, 118, 101, 108]) :
    Calls Tryd.prog 34 #[.pointer (some ⟨b, 0, none⟩), .string k, .string v] w (AnsTo w b (numAns (parCells P) v 0 2 fun _ => (parCells P, ⟨⟨#[48]⟩, true, true⟩))) := by
  have hbl : b < w.heap.size := (Array.getElem?_eq_some_iff.1 hb).1
  have b1 := box_below w (.cells #[.pointer (some ⟨b, 0, none⟩)] 88)
  have hc1 := blk_new w (.cells #[.pointer (some ⟨b, 0, none⟩)] 88)
  obtain ⟨W1, hW1⟩ : ∃ W, w.alloc (.cells #[.pointer (some ⟨b, 0, none⟩)] 88) = W := ⟨_, rfl⟩
  rw [hW1] at b1 hc1
  have hs1 := hsz_of hW1
  have b2 := box_below W1 (.cells #[.string ⟨#[]⟩, .bool false, .bool false] 65)
  have hZ := blk_new W1 (.cells #[.string ⟨#[]⟩, .bool false, .bool false] 65)
  have hc2 := blk_keep b2 hc1
  have hp2 := blk_keep b2 (blk_keep b1 hb)
  obtain ⟨W2, hW2⟩ : ∃ W, W1.alloc (.cells #[.string ⟨#[]⟩, .bool false, .bool false] 65) = W := ⟨_, rfl⟩
  rw [hW2] at b2 hZ hc2 hp2
  have hbW := below_then b1 b2
  obtain ⟨cc, -⟩ := cells1 hc2
  obtain ⟨r0, r1, r2, f0, f1, f2⟩ := cells3 hZ
  have Hbl := Lib.hid (And.intro hbl hs1)
  have H := Lib.hid (And.intro hbW (And.intro hZ (And.intro hp2 hc2)))
  have Hb := Lib.hid hb
  clear b1 hc1 b2 hZ hc2 hp2 hbW hb hs1
  obtain ⟨⟨rc, av, at_, ao⟩, hRR⟩ : ∃ r, (numAns (parCells P) v 0 2 fun _ => (parCells P, ⟨⟨#[48]⟩, true, true⟩)) = r := ⟨_, rfl⟩
  rw [hRR]
  have HR := Lib.hid hRR
  clear hRR
  go_enter Tryd.func34, Tryd.ntmps34
  go_wp2_with fail
  refine (always_any ⟨#[48]⟩ W2).mono ?_
  rintro _ W3 ⟨rfl, hb3, tp, hc3⟩
  have hX := nconst_to b W2.heap.size (parCells P) ⟨#[48]⟩ v 0 2 tp W3 (blk_keep hb3 H.out.2.2.1) hc3
  rw [HR.out] at hX
  have HX := Lib.hid hX
  have H9 := Lib.hid (And.intro (blk_keep hb3 H.out.2.1) (below_then H.out.1 hb3))
  clear hX hb3 hc3
  go_wp2_with fail
  refine HX.out.mono ?_
  rintro _ W9 ⟨rfl, hg, hh⟩
  have hr9 := grown_blk hg (b := W1.heap.size) (by intro h; injection h with h; have := Hbl.out; omega) H9.out.1
  obtain ⟨r0, r1, r2, f0, f1, f2⟩ := cells3 hr9
  have H10 := Lib.hid (And.intro hr9 (And.intro (grown_belowR H9.out.2 hg (fun k hk => by injection hk with hk; have := Hbl.out; omega)) hh))
  clear hr9 hg hh
  simp only [ansV]
  go_wp2_with fail
  have hZ := set3 H10.out.1 (.string av) (.bool at_) (.bool ao)
  have hG := grown3 H10.out.2.1 (show w.heap.size ≤ W1.heap.size by have := Hbl.out.2; omega) (.string av) (.bool at_) (.bool ao)
  have hP := set3_other H10.out.2.2 (show W1.heap.size ≠ b by have := Hbl.out; omega) (.string av) (.bool at_) (.bool ao)
  obtain ⟨WF, hWF⟩ : ∃ W, ((W9.setCell ⟨W1.heap.size, 0, none⟩ (.string av)).setCell ⟨W1.heap.size, 1, none⟩ (.bool at_)).setCell ⟨W1.heap.size, 2, none⟩ (.bool ao) = W := ⟨_, rfl⟩
  rw [hWF] at hZ hG hP ⊢
  obtain ⟨z0, z1, z2, -, -, -⟩ := cells3 hZ
  exact bodyPost_ret (v := .agg #[.string av, .bool at_, .bool ao]) (by simp [results, Tryd.results34, go_sem, z0, z1, z2]) rfl ⟨rfl, hG, hP⟩
set_option maxRecDepth 100000 in
set_option maxHeartbeats 1000000 in
theorem ans_retain (P : Par) (b : Nat) (k v : ByteArray) (w : World) (hb : w.heap[b]? = some (.cells (parCells P) 32 (0, 0))) (hk : k.toList = [68, 101, 102, 97, 117, 108, 116, 84, 105, 109, 101, 50, 82, 101, 116, 97, 105, 110]) :
    Calls Tryd.prog 34 #[.pointer (some ⟨b, 0, none⟩), .string k, .string v] w (AnsTo w b (numAns (parCells P) v 0 3600 fun _ => (parCells P, ⟨⟨#[48]⟩, true, true⟩))) := by
  have hbl : b < w.heap.size := (Array.getElem?_eq_some_iff.1 hb).1
  have b1 := box_below w (.cells #[.pointer (some ⟨b, 0, none⟩)] 88)
  have hc1 := blk_new w (.cells #[.pointer (some ⟨b, 0, none⟩)] 88)
  obtain ⟨W1, hW1⟩ : ∃ W, w.alloc (.cells #[.pointer (some ⟨b, 0, none⟩)] 88) = W := ⟨_, rfl⟩
  rw [hW1] at b1 hc1
  have hs1 := hsz_of hW1
  have b2 := box_below W1 (.cells #[.string ⟨#[]⟩, .bool false, .bool false] 65)
  have hZ := blk_new W1 (.cells #[.string ⟨#[]⟩, .bool false, .bool false] 65)
  have hc2 := blk_keep b2 hc1
  have hp2 := blk_keep b2 (blk_keep b1 hb)
  obtain ⟨W2, hW2⟩ : ∃ W, W1.alloc (.cells #[.string ⟨#[]⟩, .bool false, .bool false] 65) = W := ⟨_, rfl⟩
  rw [hW2] at b2 hZ hc2 hp2
  have hbW := below_then b1 b2
  obtain ⟨cc, -⟩ := cells1 hc2
  obtain ⟨r0, r1, r2, f0, f1, f2⟩ := cells3 hZ
  have Hbl := Lib.hid (And.intro hbl hs1)
  have H := Lib.hid (And.intro hbW (And.intro hZ (And.intro hp2 hc2)))
  have Hb := Lib.hid hb
  clear b1 hc1 b2 hZ hc2 hp2 hbW hb hs1
  obtain ⟨⟨rc, av, at_, ao⟩, hRR⟩ : ∃ r, (numAns (parCells P) v 0 3600 fun _ => (parCells P, ⟨⟨#[48]⟩, true, true⟩)) = r := ⟨_, rfl⟩
  rw [hRR]
  have HR := Lib.hid hRR
  clear hRR
  go_enter Tryd.func34, Tryd.ntmps34
  go_wp2_with fail
  refine (always_any ⟨#[48]⟩ W2).mono ?_
  rintro _ W3 ⟨rfl, hb3, tp, hc3⟩
  have hX := nconst_to b W2.heap.size (parCells P) ⟨#[48]⟩ v 0 3600 tp W3 (blk_keep hb3 H.out.2.2.1) hc3
  rw [HR.out] at hX
  have HX := Lib.hid hX
  have H9 := Lib.hid (And.intro (blk_keep hb3 H.out.2.1) (below_then H.out.1 hb3))
  clear hX hb3 hc3
  go_wp2_with fail
  refine HX.out.mono ?_
  rintro _ W9 ⟨rfl, hg, hh⟩
  have hr9 := grown_blk hg (b := W1.heap.size) (by intro h; injection h with h; have := Hbl.out; omega) H9.out.1
  obtain ⟨r0, r1, r2, f0, f1, f2⟩ := cells3 hr9
  have H10 := Lib.hid (And.intro hr9 (And.intro (grown_belowR H9.out.2 hg (fun k hk => by injection hk with hk; have := Hbl.out; omega)) hh))
  clear hr9 hg hh
  simp only [ansV]
  go_wp2_with fail
  have hZ := set3 H10.out.1 (.string av) (.bool at_) (.bool ao)
  have hG := grown3 H10.out.2.1 (show w.heap.size ≤ W1.heap.size by have := Hbl.out.2; omega) (.string av) (.bool at_) (.bool ao)
  have hP := set3_other H10.out.2.2 (show W1.heap.size ≠ b by have := Hbl.out; omega) (.string av) (.bool at_) (.bool ao)
  obtain ⟨WF, hWF⟩ : ∃ W, ((W9.setCell ⟨W1.heap.size, 0, none⟩ (.string av)).setCell ⟨W1.heap.size, 1, none⟩ (.bool at_)).setCell ⟨W1.heap.size, 2, none⟩ (.bool ao) = W := ⟨_, rfl⟩
  rw [hWF] at hZ hG hP ⊢
  obtain ⟨z0, z1, z2, -, -, -⟩ := cells3 hZ
  exact bodyPost_ret (v := .agg #[.string av, .bool at_, .bool ao]) (by simp [results, Tryd.results34, go_sem, z0, z1, z2]) rfl ⟨rfl, hG, hP⟩
set_option maxRecDepth 100000 in
set_option maxHeartbeats 1000000 in
theorem ans_wait (P : Par) (b : Nat) (k v : ByteArray) (w : World) (hb : w.heap[b]? = some (.cells (parCells P) 32 (0, 0))) (hk : k.toList = [68, 101, 102, 97, 117, 108, 116, 84, 105, 109, 101, 50, 87, 97, 105, 116]) :
    Calls Tryd.prog 34 #[.pointer (some ⟨b, 0, none⟩), .string k, .string v] w (AnsTo w b (numAns (parCells P) v 0 3600 fun n => (parCells P, ⟨⟨(digP (if n < 2 then 2 else n)).toArray⟩, true, true⟩))) := by
  have hbl : b < w.heap.size := (Array.getElem?_eq_some_iff.1 hb).1
  have b1 := box_below w (.cells #[.pointer (some ⟨b, 0, none⟩)] 88)
  have hc1 := blk_new w (.cells #[.pointer (some ⟨b, 0, none⟩)] 88)
  obtain ⟨W1, hW1⟩ : ∃ W, w.alloc (.cells #[.pointer (some ⟨b, 0, none⟩)] 88) = W := ⟨_, rfl⟩
  rw [hW1] at b1 hc1
  have hs1 := hsz_of hW1
  have b2 := box_below W1 (.cells #[.string ⟨#[]⟩, .bool false, .bool false] 65)
  have hZ := blk_new W1 (.cells #[.string ⟨#[]⟩, .bool false, .bool false] 65)
  have hc2 := blk_keep b2 hc1
  have hp2 := blk_keep b2 (blk_keep b1 hb)
  obtain ⟨W2, hW2⟩ : ∃ W, W1.alloc (.cells #[.string ⟨#[]⟩, .bool false, .bool false] 65) = W := ⟨_, rfl⟩
  rw [hW2] at b2 hZ hc2 hp2
  have hbW := below_then b1 b2
  obtain ⟨cc, -⟩ := cells1 hc2
  obtain ⟨r0, r1, r2, f0, f1, f2⟩ := cells3 hZ
  have Hbl := Lib.hid (And.intro hbl hs1)
  have H := Lib.hid (And.intro hbW (And.intro hZ (And.intro hp2 hc2)))
  have Hb := Lib.hid hb
  clear b1 hc1 b2 hZ hc2 hp2 hbW hb hs1
  obtain ⟨⟨rc, av, at_, ao⟩, hRR⟩ : ∃ r, (numAns (parCells P) v 0 3600 fun n => (parCells P, ⟨⟨(digP (if n < 2 then 2 else n)).toArray⟩, true, true⟩)) = r := ⟨_, rfl⟩
  rw [hRR]
  have hX := nwait_to b (parCells P) v 0 3600 W2 H.out.2.2.1 (by omega) (by omega)
  rw [hRR] at hX
  have HX := Lib.hid hX
  have H9 := Lib.hid (And.intro H.out.2.1 H.out.1)
  clear hX hRR
  go_enter Tryd.func34, Tryd.ntmps34
  go_wp2_with fail
  refine HX.out.mono ?_
  rintro _ W9 ⟨rfl, hg, hh⟩
  have hr9 := grown_blk hg (b := W1.heap.size) (by intro h; injection h with h; have := Hbl.out; omega) H9.out.1
  obtain ⟨r0, r1, r2, f0, f1, f2⟩ := cells3 hr9
  have H10 := Lib.hid (And.intro hr9 (And.intro (grown_belowR H9.out.2 hg (fun k hk => by injection hk with hk; have := Hbl.out; omega)) hh))
  clear hr9 hg hh
  simp only [ansV]
  go_wp2_with fail
  have hZ := set3 H10.out.1 (.string av) (.bool at_) (.bool ao)
  have hG := grown3 H10.out.2.1 (show w.heap.size ≤ W1.heap.size by have := Hbl.out.2; omega) (.string av) (.bool at_) (.bool ao)
  have hP := set3_other H10.out.2.2 (show W1.heap.size ≠ b by have := Hbl.out; omega) (.string av) (.bool at_) (.bool ao)
  obtain ⟨WF, hWF⟩ : ∃ W, ((W9.setCell ⟨W1.heap.size, 0, none⟩ (.string av)).setCell ⟨W1.heap.size, 1, none⟩ (.bool at_)).setCell ⟨W1.heap.size, 2, none⟩ (.bool ao) = W := ⟨_, rfl⟩
  rw [hWF] at hZ hG hP ⊢
  obtain ⟨z0, z1, z2, -, -, -⟩ := cells3 hZ
  exact bodyPost_ret (v := .agg #[.string av, .bool at_, .bool ao]) (by simp [results, Tryd.results34, go_sem, z0, z1, z2]) rfl ⟨rfl, hG, hP⟩
set_option maxRecDepth 100000 in
set_option maxHeartbeats 1000000 in
theorem ans_asked (P : Par) (b : Nat) (k v : ByteArray) (w : World) (hb : w.heap[b]? = some (.cells (parCells P) 32 (0, 0))) (hk : k.toList = [73, 110, 105, 116, 105, 97, 108, 82, 50, 84]) :
    Calls Tryd.prog 34 #[.pointer (some ⟨b, 0, none⟩), .string k, .string v] w (AnsTo w b (swAns (parCells P) v fun x => ((parCells P).setIfInBounds 6 (.bool (P.asked || x)), ⟨flagS (P.asked || x), true, true⟩))) := by
  have hbl : b < w.heap.size := (Array.getElem?_eq_some_iff.1 hb).1
  have b1 := box_below w (.cells #[.pointer (some ⟨b, 0, none⟩)] 88)
  have hc1 := blk_new w (.cells #[.pointer (some ⟨b, 0, none⟩)] 88)
  obtain ⟨W1, hW1⟩ : ∃ W, w.alloc (.cells #[.pointer (some ⟨b, 0, none⟩)] 88) = W := ⟨_, rfl⟩
  rw [hW1] at b1 hc1
  have hs1 := hsz_of hW1
  have b2 := box_below W1 (.cells #[.string ⟨#[]⟩, .bool false, .bool false] 65)
  have hZ := blk_new W1 (.cells #[.string ⟨#[]⟩, .bool false, .bool false] 65)
  have hc2 := blk_keep b2 hc1
  have hp2 := blk_keep b2 (blk_keep b1 hb)
  obtain ⟨W2, hW2⟩ : ∃ W, W1.alloc (.cells #[.string ⟨#[]⟩, .bool false, .bool false] 65) = W := ⟨_, rfl⟩
  rw [hW2] at b2 hZ hc2 hp2
  have hbW := below_then b1 b2
  obtain ⟨cc, -⟩ := cells1 hc2
  obtain ⟨r0, r1, r2, f0, f1, f2⟩ := cells3 hZ
  have Hbl := Lib.hid (And.intro hbl hs1)
  have H := Lib.hid (And.intro hbW (And.intro hZ (And.intro hp2 hc2)))
  have Hb := Lib.hid hb
  clear b1 hc1 b2 hZ hc2 hp2 hbW hb hs1
  obtain ⟨⟨rc, av, at_, ao⟩, hRR⟩ : ∃ r, (swAns (parCells P) v fun x => ((parCells P).setIfInBounds 6 (.bool (P.asked || x)), ⟨flagS (P.asked || x), true, true⟩)) = r := ⟨_, rfl⟩
  rw [hRR]
  have hX := sw_to b (parCells P) v 56 #[.pointer (some ⟨w.heap.size, 0, none⟩)] (fun x => ((parCells P).setIfInBounds 6 (.bool (P.asked || x)), ⟨flagS (P.asked || x), true, true⟩)) W2 H.out.2.2.1 (fun _ _ => by kernel_rfl) (fun x W hW => (asked_any b w.heap.size (parCells P) x P.asked _ W (blk_keep hW H.out.2.2.1) rfl (blk_keep hW H.out.2.2.2) (by have := Hbl.out; omega)).mono (by rintro e W' ⟨a, rfl, hg, rfl, hh⟩; exact ⟨rfl, hg, hh⟩))
  rw [hRR] at hX
  have HX := Lib.hid hX
  have H9 := Lib.hid (And.intro H.out.2.1 H.out.1)
  clear hX hRR
  go_enter Tryd.func34, Tryd.ntmps34
  go_wp2_with fail
  refine HX.out.mono ?_
  rintro _ W9 ⟨rfl, hg, hh⟩
  have hr9 := grown_blk hg (b := W1.heap.size) (by intro h; injection h with h; have := Hbl.out; omega) H9.out.1
  obtain ⟨r0, r1, r2, f0, f1, f2⟩ := cells3 hr9
  have H10 := Lib.hid (And.intro hr9 (And.intro (grown_belowR H9.out.2 hg (fun k hk => by injection hk with hk; have := Hbl.out; omega)) hh))
  clear hr9 hg hh
  simp only [ansV]
  go_wp2_with fail
  have hZ := set3 H10.out.1 (.string av) (.bool at_) (.bool ao)
  have hG := grown3 H10.out.2.1 (show w.heap.size ≤ W1.heap.size by have := Hbl.out.2; omega) (.string av) (.bool at_) (.bool ao)
  have hP := set3_other H10.out.2.2 (show W1.heap.size ≠ b by have := Hbl.out; omega) (.string av) (.bool at_) (.bool ao)
  obtain ⟨WF, hWF⟩ : ∃ W, ((W9.setCell ⟨W1.heap.size, 0, none⟩ (.string av)).setCell ⟨W1.heap.size, 1, none⟩ (.bool at_)).setCell ⟨W1.heap.size, 2, none⟩ (.bool ao) = W := ⟨_, rfl⟩
  rw [hWF] at hZ hG hP ⊢
  obtain ⟨z0, z1, z2, -, -, -⟩ := cells3 hZ
  exact bodyPost_ret (v := .agg #[.string av, .bool at_, .bool ao]) (by simp [results, Tryd.results34, go_sem, z0, z1, z2]) rfl ⟨rfl, hG, hP⟩
set_option maxRecDepth 100000 in
set_option maxHeartbeats 1000000 in
theorem ans_immed (P : Par) (b : Nat) (k v : ByteArray) (w : World) (hb : w.heap[b]? = some (.cells (parCells P) 32 (0, 0))) (hk : k.toList = [73, 109, 109, 101, 100, 105, 97, 116, 101, 68, 97, 116, 97]) :
    Calls Tryd.prog 34 #[.pointer (some ⟨b, 0, none⟩), .string k, .string v] w (AnsTo w b (swAns (parCells P) v fun x => ((parCells P).setIfInBounds 7 (.bool (P.im && x)), ⟨flagS (P.im && x), true, true⟩))) := by
  have hbl : b < w.heap.size := (Array.getElem?_eq_some_iff.1 hb).1
  have b1 := box_below w (.cells #[.pointer (some ⟨b, 0, none⟩)] 88)
  have hc1 := blk_new w (.cells #[.pointer (some ⟨b, 0, none⟩)] 88)
  obtain ⟨W1, hW1⟩ : ∃ W, w.alloc (.cells #[.pointer (some ⟨b, 0, none⟩)] 88) = W := ⟨_, rfl⟩
  rw [hW1] at b1 hc1
  have hs1 := hsz_of hW1
  have b2 := box_below W1 (.cells #[.string ⟨#[]⟩, .bool false, .bool false] 65)
  have hZ := blk_new W1 (.cells #[.string ⟨#[]⟩, .bool false, .bool false] 65)
  have hc2 := blk_keep b2 hc1
  have hp2 := blk_keep b2 (blk_keep b1 hb)
  obtain ⟨W2, hW2⟩ : ∃ W, W1.alloc (.cells #[.string ⟨#[]⟩, .bool false, .bool false] 65) = W := ⟨_, rfl⟩
  rw [hW2] at b2 hZ hc2 hp2
  have hbW := below_then b1 b2
  obtain ⟨cc, -⟩ := cells1 hc2
  obtain ⟨r0, r1, r2, f0, f1, f2⟩ := cells3 hZ
  have Hbl := Lib.hid (And.intro hbl hs1)
  have H := Lib.hid (And.intro hbW (And.intro hZ (And.intro hp2 hc2)))
  have Hb := Lib.hid hb
  clear b1 hc1 b2 hZ hc2 hp2 hbW hb hs1
  obtain ⟨⟨rc, av, at_, ao⟩, hRR⟩ : ∃ r, (swAns (parCells P) v fun x => ((parCells P).setIfInBounds 7 (.bool (P.im && x)), ⟨flagS (P.im && x), true, true⟩)) = r := ⟨_, rfl⟩
  rw [hRR]
  have hX := sw_to b (parCells P) v 58 #[.pointer (some ⟨w.heap.size, 0, none⟩)] (fun x => ((parCells P).setIfInBounds 7 (.bool (P.im && x)), ⟨flagS (P.im && x), true, true⟩)) W2 H.out.2.2.1 (fun _ _ => by kernel_rfl) (fun x W hW => (immed_any b w.heap.size (parCells P) x P.im _ W (blk_keep hW H.out.2.2.1) rfl (blk_keep hW H.out.2.2.2) (by have := Hbl.out; omega)).mono (by rintro e W' ⟨a, rfl, hg, rfl, hh⟩; exact ⟨rfl, hg, hh⟩))
  rw [hRR] at hX
  have HX := Lib.hid hX
  have H9 := Lib.hid (And.intro H.out.2.1 H.out.1)
  clear hX hRR
  go_enter Tryd.func34, Tryd.ntmps34
  go_wp2_with fail
  refine HX.out.mono ?_
  rintro _ W9 ⟨rfl, hg, hh⟩
  have hr9 := grown_blk hg (b := W1.heap.size) (by intro h; injection h with h; have := Hbl.out; omega) H9.out.1
  obtain ⟨r0, r1, r2, f0, f1, f2⟩ := cells3 hr9
  have H10 := Lib.hid (And.intro hr9 (And.intro (grown_belowR H9.out.2 hg (fun k hk => by injection hk with hk; have := Hbl.out; omega)) hh))
  clear hr9 hg hh
  simp only [ansV]
  go_wp2_with fail
  have hZ := set3 H10.out.1 (.string av) (.bool at_) (.bool ao)
  have hG := grown3 H10.out.2.1 (show w.heap.size ≤ W1.heap.size by have := Hbl.out.2; omega) (.string av) (.bool at_) (.bool ao)
  have hP := set3_other H10.out.2.2 (show W1.heap.size ≠ b by have := Hbl.out; omega) (.string av) (.bool at_) (.bool ao)
  obtain ⟨WF, hWF⟩ : ∃ W, ((W9.setCell ⟨W1.heap.size, 0, none⟩ (.string av)).setCell ⟨W1.heap.size, 1, none⟩ (.bool at_)).setCell ⟨W1.heap.size, 2, none⟩ (.bool ao) = W := ⟨_, rfl⟩
  rw [hWF] at hZ hG hP ⊢
  obtain ⟨z0, z1, z2, -, -, -⟩ := cells3 hZ
  exact bodyPost_ret (v := .agg #[.string av, .bool at_, .bool ao]) (by simp [results, Tryd.results34, go_sem, z0, z1, z2]) rfl ⟨rfl, hG, hP⟩
set_option maxRecDepth 100000 in
set_option maxHeartbeats 1000000 in
theorem ans_pdu (P : Par) (b : Nat) (k v : ByteArray) (w : World) (hb : w.heap[b]? = some (.cells (parCells P) 32 (0, 0))) (hk : k.toList = [68, 97, 116, 97, 80, 68, 85, 73, 110, 79, 114, 100, 101, 114]) :
    Calls Tryd.prog 34 #[.pointer (some ⟨b, 0, none⟩), .string k, .string v] w (AnsTo w b (swAns (parCells P) v fun _ => (parCells P, ⟨flagS true, true, true⟩))) := by
  have hbl : b < w.heap.size := (Array.getElem?_eq_some_iff.1 hb).1
  have b1 := box_below w (.cells #[.pointer (some ⟨b, 0, none⟩)] 88)
  have hc1 := blk_new w (.cells #[.pointer (some ⟨b, 0, none⟩)] 88)
  obtain ⟨W1, hW1⟩ : ∃ W, w.alloc (.cells #[.pointer (some ⟨b, 0, none⟩)] 88) = W := ⟨_, rfl⟩
  rw [hW1] at b1 hc1
  have hs1 := hsz_of hW1
  have b2 := box_below W1 (.cells #[.string ⟨#[]⟩, .bool false, .bool false] 65)
  have hZ := blk_new W1 (.cells #[.string ⟨#[]⟩, .bool false, .bool false] 65)
  have hc2 := blk_keep b2 hc1
  have hp2 := blk_keep b2 (blk_keep b1 hb)
  obtain ⟨W2, hW2⟩ : ∃ W, W1.alloc (.cells #[.string ⟨#[]⟩, .bool false, .bool false] 65) = W := ⟨_, rfl⟩
  rw [hW2] at b2 hZ hc2 hp2
  have hbW := below_then b1 b2
  obtain ⟨cc, -⟩ := cells1 hc2
  obtain ⟨r0, r1, r2, f0, f1, f2⟩ := cells3 hZ
  have Hbl := Lib.hid (And.intro hbl hs1)
  have H := Lib.hid (And.intro hbW (And.intro hZ (And.intro hp2 hc2)))
  have Hb := Lib.hid hb
  clear b1 hc1 b2 hZ hc2 hp2 hbW hb hs1
  obtain ⟨⟨rc, av, at_, ao⟩, hRR⟩ : ∃ r, (swAns (parCells P) v fun _ => (parCells P, ⟨flagS true, true, true⟩)) = r := ⟨_, rfl⟩
  rw [hRR]
  have hX := sw_to b (parCells P) v 60 #[] (fun _ => (parCells P, ⟨flagS true, true, true⟩)) W2 H.out.2.2.1 (fun _ _ => by kernel_rfl) (fun x W hW => (yes6_any x W).mono (by rintro e W' ⟨rfl, h⟩; exact ansTo_below (blk_keep hW H.out.2.2.1) h))
  rw [hRR] at hX
  have HX := Lib.hid hX
  have H9 := Lib.hid (And.intro H.out.2.1 H.out.1)
  clear hX hRR
  go_enter Tryd.func34, Tryd.ntmps34
  go_wp2_with fail
  refine HX.out.mono ?_
  rintro _ W9 ⟨rfl, hg, hh⟩
  have hr9 := grown_blk hg (b := W1.heap.size) (by intro h; injection h with h; have := Hbl.out; omega) H9.out.1
  obtain ⟨r0, r1, r2, f0, f1, f2⟩ := cells3 hr9
  have H10 := Lib.hid (And.intro hr9 (And.intro (grown_belowR H9.out.2 hg (fun k hk => by injection hk with hk; have := Hbl.out; omega)) hh))
  clear hr9 hg hh
  simp only [ansV]
  go_wp2_with fail
  have hZ := set3 H10.out.1 (.string av) (.bool at_) (.bool ao)
  have hG := grown3 H10.out.2.1 (show w.heap.size ≤ W1.heap.size by have := Hbl.out.2; omega) (.string av) (.bool at_) (.bool ao)
  have hP := set3_other H10.out.2.2 (show W1.heap.size ≠ b by have := Hbl.out; omega) (.string av) (.bool at_) (.bool ao)
  obtain ⟨WF, hWF⟩ : ∃ W, ((W9.setCell ⟨W1.heap.size, 0, none⟩ (.string av)).setCell ⟨W1.heap.size, 1, none⟩ (.bool at_)).setCell ⟨W1.heap.size, 2, none⟩ (.bool ao) = W := ⟨_, rfl⟩
  rw [hWF] at hZ hG hP ⊢
  obtain ⟨z0, z1, z2, -, -, -⟩ := cells3 hZ
  exact bodyPost_ret (v := .agg #[.string av, .bool at_, .bool ao]) (by simp [results, Tryd.results34, go_sem, z0, z1, z2]) rfl ⟨rfl, hG, hP⟩
set_option maxRecDepth 100000 in
set_option maxHeartbeats 1000000 in
theorem ans_seq (P : Par) (b : Nat) (k v : ByteArray) (w : World) (hb : w.heap[b]? = some (.cells (parCells P) 32 (0, 0))) (hk : k.toList = [68, 97, 116, 97, 83, 101, 113, 117, 101, 110, 99, 101, 73, 110, 79, 114, 100, 101, 114]) :
    Calls Tryd.prog 34 #[.pointer (some ⟨b, 0, none⟩), .string k, .string v] w (AnsTo w b (swAns (parCells P) v fun _ => (parCells P, ⟨flagS true, true, true⟩))) := by
  have hbl : b < w.heap.size := (Array.getElem?_eq_some_iff.1 hb).1
  have b1 := box_below w (.cells #[.pointer (some ⟨b, 0, none⟩)] 88)
  have hc1 := blk_new w (.cells #[.pointer (some ⟨b, 0, none⟩)] 88)
  obtain ⟨W1, hW1⟩ : ∃ W, w.alloc (.cells #[.pointer (some ⟨b, 0, none⟩)] 88) = W := ⟨_, rfl⟩
  rw [hW1] at b1 hc1
  have hs1 := hsz_of hW1
  have b2 := box_below W1 (.cells #[.string ⟨#[]⟩, .bool false, .bool false] 65)
  have hZ := blk_new W1 (.cells #[.string ⟨#[]⟩, .bool false, .bool false] 65)
  have hc2 := blk_keep b2 hc1
  have hp2 := blk_keep b2 (blk_keep b1 hb)
  obtain ⟨W2, hW2⟩ : ∃ W, W1.alloc (.cells #[.string ⟨#[]⟩, .bool false, .bool false] 65) = W := ⟨_, rfl⟩
  rw [hW2] at b2 hZ hc2 hp2
  have hbW := below_then b1 b2
  obtain ⟨cc, -⟩ := cells1 hc2
  obtain ⟨r0, r1, r2, f0, f1, f2⟩ := cells3 hZ
  have Hbl := Lib.hid (And.intro hbl hs1)
  have H := Lib.hid (And.intro hbW (And.intro hZ (And.intro hp2 hc2)))
  have Hb := Lib.hid hb
  clear b1 hc1 b2 hZ hc2 hp2 hbW hb hs1
  obtain ⟨⟨rc, av, at_, ao⟩, hRR⟩ : ∃ r, (swAns (parCells P) v fun _ => (parCells P, ⟨flagS true, true, true⟩)) = r := ⟨_, rfl⟩
  rw [hRR]
  have hX := sw_to b (parCells P) v 60 #[] (fun _ => (parCells P, ⟨flagS true, true, true⟩)) W2 H.out.2.2.1 (fun _ _ => by kernel_rfl) (fun x W hW => (yes6_any x W).mono (by rintro e W' ⟨rfl, h⟩; exact ansTo_below (blk_keep hW H.out.2.2.1) h))
  rw [hRR] at hX
  have HX := Lib.hid hX
  have H9 := Lib.hid (And.intro H.out.2.1 H.out.1)
  clear hX hRR
  go_enter Tryd.func34, Tryd.ntmps34
  go_wp2_with fail
  refine HX.out.mono ?_
  rintro _ W9 ⟨rfl, hg, hh⟩
  have hr9 := grown_blk hg (b := W1.heap.size) (by intro h; injection h with h; have := Hbl.out; omega) H9.out.1
  obtain ⟨r0, r1, r2, f0, f1, f2⟩ := cells3 hr9
  have H10 := Lib.hid (And.intro hr9 (And.intro (grown_belowR H9.out.2 hg (fun k hk => by injection hk with hk; have := Hbl.out; omega)) hh))
  clear hr9 hg hh
  simp only [ansV]
  go_wp2_with fail
  have hZ := set3 H10.out.1 (.string av) (.bool at_) (.bool ao)
  have hG := grown3 H10.out.2.1 (show w.heap.size ≤ W1.heap.size by have := Hbl.out.2; omega) (.string av) (.bool at_) (.bool ao)
  have hP := set3_other H10.out.2.2 (show W1.heap.size ≠ b by have := Hbl.out; omega) (.string av) (.bool at_) (.bool ao)
  obtain ⟨WF, hWF⟩ : ∃ W, ((W9.setCell ⟨W1.heap.size, 0, none⟩ (.string av)).setCell ⟨W1.heap.size, 1, none⟩ (.bool at_)).setCell ⟨W1.heap.size, 2, none⟩ (.bool ao) = W := ⟨_, rfl⟩
  rw [hWF] at hZ hG hP ⊢
  obtain ⟨z0, z1, z2, -, -, -⟩ := cells3 hZ
  exact bodyPost_ret (v := .agg #[.string av, .bool at_, .bool ao]) (by simp [results, Tryd.results34, go_sem, z0, z1, z2]) rfl ⟨rfl, hG, hP⟩
set_option maxRecDepth 100000 in
set_option maxHeartbeats 1000000 in
theorem ans_ifm (P : Par) (b : Nat) (k v : ByteArray) (w : World) (hb : w.heap[b]? = some (.cells (parCells P) 32 (0, 0))) (hk : k.toList = [73, 70, 77, 97, 114, 107, 101, 114]) :
    Calls Tryd.prog 34 #[.pointer (some ⟨b, 0, none⟩), .string k, .string v] w (AnsTo w b (swAns (parCells P) v fun _ => (parCells P, ⟨flagS false, true, true⟩))) := by
  have hbl : b < w.heap.size := (Array.getElem?_eq_some_iff.1 hb).1
  have b1 := box_below w (.cells #[.pointer (some ⟨b, 0, none⟩)] 88)
  have hc1 := blk_new w (.cells #[.pointer (some ⟨b, 0, none⟩)] 88)
  obtain ⟨W1, hW1⟩ : ∃ W, w.alloc (.cells #[.pointer (some ⟨b, 0, none⟩)] 88) = W := ⟨_, rfl⟩
  rw [hW1] at b1 hc1
  have hs1 := hsz_of hW1
  have b2 := box_below W1 (.cells #[.string ⟨#[]⟩, .bool false, .bool false] 65)
  have hZ := blk_new W1 (.cells #[.string ⟨#[]⟩, .bool false, .bool false] 65)
  have hc2 := blk_keep b2 hc1
  have hp2 := blk_keep b2 (blk_keep b1 hb)
  obtain ⟨W2, hW2⟩ : ∃ W, W1.alloc (.cells #[.string ⟨#[]⟩, .bool false, .bool false] 65) = W := ⟨_, rfl⟩
  rw [hW2] at b2 hZ hc2 hp2
  have hbW := below_then b1 b2
  obtain ⟨cc, -⟩ := cells1 hc2
  obtain ⟨r0, r1, r2, f0, f1, f2⟩ := cells3 hZ
  have Hbl := Lib.hid (And.intro hbl hs1)
  have H := Lib.hid (And.intro hbW (And.intro hZ (And.intro hp2 hc2)))
  have Hb := Lib.hid hb
  clear b1 hc1 b2 hZ hc2 hp2 hbW hb hs1
  obtain ⟨⟨rc, av, at_, ao⟩, hRR⟩ : ∃ r, (swAns (parCells P) v fun _ => (parCells P, ⟨flagS false, true, true⟩)) = r := ⟨_, rfl⟩
  rw [hRR]
  have hX := sw_to b (parCells P) v 61 #[] (fun _ => (parCells P, ⟨flagS false, true, true⟩)) W2 H.out.2.2.1 (fun _ _ => by kernel_rfl) (fun x W hW => (no7_any x W).mono (by rintro e W' ⟨rfl, h⟩; exact ansTo_below (blk_keep hW H.out.2.2.1) h))
  rw [hRR] at hX
  have HX := Lib.hid hX
  have H9 := Lib.hid (And.intro H.out.2.1 H.out.1)
  clear hX hRR
  go_enter Tryd.func34, Tryd.ntmps34
  go_wp2_with fail
  refine HX.out.mono ?_
  rintro _ W9 ⟨rfl, hg, hh⟩
  have hr9 := grown_blk hg (b := W1.heap.size) (by intro h; injection h with h; have := Hbl.out; omega) H9.out.1
  obtain ⟨r0, r1, r2, f0, f1, f2⟩ := cells3 hr9
  have H10 := Lib.hid (And.intro hr9 (And.intro (grown_belowR H9.out.2 hg (fun k hk => by injection hk with hk; have := Hbl.out; omega)) hh))
  clear hr9 hg hh
  simp only [ansV]
  go_wp2_with fail
  have hZ := set3 H10.out.1 (.string av) (.bool at_) (.bool ao)
  have hG := grown3 H10.out.2.1 (show w.heap.size ≤ W1.heap.size by have := Hbl.out.2; omega) (.string av) (.bool at_) (.bool ao)
  have hP := set3_other H10.out.2.2 (show W1.heap.size ≠ b by have := Hbl.out; omega) (.string av) (.bool at_) (.bool ao)
  obtain ⟨WF, hWF⟩ : ∃ W, ((W9.setCell ⟨W1.heap.size, 0, none⟩ (.string av)).setCell ⟨W1.heap.size, 1, none⟩ (.bool at_)).setCell ⟨W1.heap.size, 2, none⟩ (.bool ao) = W := ⟨_, rfl⟩
  rw [hWF] at hZ hG hP ⊢
  obtain ⟨z0, z1, z2, -, -, -⟩ := cells3 hZ
  exact bodyPost_ret (v := .agg #[.string av, .bool at_, .bool ao]) (by simp [results, Tryd.results34, go_sem, z0, z1, z2]) rfl ⟨rfl, hG, hP⟩
set_option maxRecDepth 100000 in
set_option maxHeartbeats 1000000 in
theorem ans_ofm (P : Par) (b : Nat) (k v : ByteArray) (w : World) (hb : w.heap[b]? = some (.cells (parCells P) 32 (0, 0))) (hk : k.toList = [79, 70, 77, 97, 114, 107, 101, 114]) :
    Calls Tryd.prog 34 #[.pointer (some ⟨b, 0, none⟩), .string k, .string v] w (AnsTo w b (swAns (parCells P) v fun _ => (parCells P, ⟨flagS false, true, true⟩))) := by
  have hbl : b < w.heap.size := (Array.getElem?_eq_some_iff.1 hb).1
  have b1 := box_below w (.cells #[.pointer (some ⟨b, 0, none⟩)] 88)
  have hc1 := blk_new w (.cells #[.pointer (some ⟨b, 0, none⟩)] 88)
  obtain ⟨W1, hW1⟩ : ∃ W, w.alloc (.cells #[.pointer (some ⟨b, 0, none⟩)] 88) = W := ⟨_, rfl⟩
  rw [hW1] at b1 hc1
  have hs1 := hsz_of hW1
  have b2 := box_below W1 (.cells #[.string ⟨#[]⟩, .bool false, .bool false] 65)
  have hZ := blk_new W1 (.cells #[.string ⟨#[]⟩, .bool false, .bool false] 65)
  have hc2 := blk_keep b2 hc1
  have hp2 := blk_keep b2 (blk_keep b1 hb)
  obtain ⟨W2, hW2⟩ : ∃ W, W1.alloc (.cells #[.string ⟨#[]⟩, .bool false, .bool false] 65) = W := ⟨_, rfl⟩
  rw [hW2] at b2 hZ hc2 hp2
  have hbW := below_then b1 b2
  obtain ⟨cc, -⟩ := cells1 hc2
  obtain ⟨r0, r1, r2, f0, f1, f2⟩ := cells3 hZ
  have Hbl := Lib.hid (And.intro hbl hs1)
  have H := Lib.hid (And.intro hbW (And.intro hZ (And.intro hp2 hc2)))
  have Hb := Lib.hid hb
  clear b1 hc1 b2 hZ hc2 hp2 hbW hb hs1
  obtain ⟨⟨rc, av, at_, ao⟩, hRR⟩ : ∃ r, (swAns (parCells P) v fun _ => (parCells P, ⟨flagS false, true, true⟩)) = r := ⟨_, rfl⟩
  rw [hRR]
  have hX := sw_to b (parCells P) v 61 #[] (fun _ => (parCells P, ⟨flagS false, true, true⟩)) W2 H.out.2.2.1 (fun _ _ => by kernel_rfl) (fun x W hW => (no7_any x W).mono (by rintro e W' ⟨rfl, h⟩; exact ansTo_below (blk_keep hW H.out.2.2.1) h))
  rw [hRR] at hX
  have HX := Lib.hid hX
  have H9 := Lib.hid (And.intro H.out.2.1 H.out.1)
  clear hX hRR
  go_enter Tryd.func34, Tryd.ntmps34
  go_wp2_with fail
  refine HX.out.mono ?_
  rintro _ W9 ⟨rfl, hg, hh⟩
  have hr9 := grown_blk hg (b := W1.heap.size) (by intro h; injection h with h; have := Hbl.out; omega) H9.out.1
  obtain ⟨r0, r1, r2, f0, f1, f2⟩ := cells3 hr9
  have H10 := Lib.hid (And.intro hr9 (And.intro (grown_belowR H9.out.2 hg (fun k hk => by injection hk with hk; have := Hbl.out; omega)) hh))
  clear hr9 hg hh
  simp only [ansV]
  go_wp2_with fail
  have hZ := set3 H10.out.1 (.string av) (.bool at_) (.bool ao)
  have hG := grown3 H10.out.2.1 (show w.heap.size ≤ W1.heap.size by have := Hbl.out.2; omega) (.string av) (.bool at_) (.bool ao)
  have hP := set3_other H10.out.2.2 (show W1.heap.size ≠ b by have := Hbl.out; omega) (.string av) (.bool at_) (.bool ao)
  obtain ⟨WF, hWF⟩ : ∃ W, ((W9.setCell ⟨W1.heap.size, 0, none⟩ (.string av)).setCell ⟨W1.heap.size, 1, none⟩ (.bool at_)).setCell ⟨W1.heap.size, 2, none⟩ (.bool ao) = W := ⟨_, rfl⟩
  rw [hWF] at hZ hG hP ⊢
  obtain ⟨z0, z1, z2, -, -, -⟩ := cells3 hZ
  exact bodyPost_ret (v := .agg #[.string av, .bool at_, .bool ao]) (by simp [results, Tryd.results34, go_sem, z0, z1, z2]) rfl ⟨rfl, hG, hP⟩
end Go.Proofs.YtmehjcimohhopaaDoor

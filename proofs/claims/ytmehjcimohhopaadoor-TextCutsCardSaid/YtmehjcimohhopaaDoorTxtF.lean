/- Answers to a value: the program's function values. No statement is proved here. -/
import Derived.Test.YtmehjcimohhopaaDoorTxtE
namespace Go.Proofs.YtmehjcimohhopaaDoor
open Go.RowKit

theorem cell_of {w : World} {b k : Nat} {cs : Array Value} {t : TypeId} {v : Value} (hb : w.heap[b]? = some (.cells cs t (0, 0))) (hk : cs[k]? = some v) : w.cell? ⟨b, k, none⟩ = some v ∧ w.frozen? ⟨b, k, none⟩ = false := by
  refine ⟨?_, ?_⟩
  · simp [World.cell?, hb, hk]
  · simp [World.frozen?, hb]
theorem blk_set {w : World} {b : Nat} {cs : Array Value} {t : TypeId} (hb : w.heap[b]? = some (.cells cs t (0, 0))) (k : Nat) (v : Value) : (w.setCell ⟨b, k, none⟩ v).heap[b]? = some (.cells (cs.setIfInBounds k v) t (0, 0)) := by
  simp [World.setCell, Array.getElem?_modify, hb]

theorem set3_other {W : World} {b r : Nat} {o : Obj} (h : W.heap[b]? = some o) (hr : r ≠ b) (y0 y1 y2 : Value) : (((W.setCell ⟨r, 0, none⟩ y0).setCell ⟨r, 1, none⟩ y1).setCell ⟨r, 2, none⟩ y2).heap[b]? = some o := by
  rw [Below.heap_setCell _ ⟨r, 2, none⟩ _ b (by simpa using fun h => hr h.symm), Below.heap_setCell _ ⟨r, 1, none⟩ _ b (by simpa using fun h => hr h.symm), Below.heap_setCell _ ⟨r, 0, none⟩ _ b (by simpa using fun h => hr h.symm)]
  exact h
theorem drew_heap (w : World) : w.drew.heap = w.heap := rfl
theorem grown_drew {w W : World} {r : Option Nat} (h : w.grownBy W r) : w.grownBy W.drew r := ⟨h.os, h.tape, h.output, h.size, h.block⟩
theorem grown_of_below {w W : World} (h : Below w.heap.size w W) (r : Option Nat) : w.grownBy W r := ⟨h.os, h.tape, h.output, h.size, fun i hi _ => h.block i hi⟩

set_option maxRecDepth 100000 in
set_option maxHeartbeats 1000000 in
theorem size1_any (b c k : Nat) (cs : Array Value) (h n M : Int) (tp : TypeId) (w : World) (hb : w.heap[b]? = some (.cells cs 32 (0, 0))) (hk : cs[k]? = some (.int .i64 h)) (hc : w.heap[c]? = some (.cells #[.pointer (some ⟨b, k, none⟩)] tp (0, 0)))
    (hM : (if n < h then n else h) = M) (hin : in64 M) (hbc : b ≠ c) :
    Calls Tryd.prog 76 #[.int .i64 n, .pointer (some ⟨c, 0, none⟩)] w fun e w' => ∃ a, e = .returned (ansV a) ∧ w.grownBy w' (some b) ∧ (a = ⟨⟨(digP M).toArray⟩, true, true⟩ ∧ w'.heap[b]? = some (.cells (cs.setIfInBounds k (.int .i64 M)) 32 (0, 0))) := by
  have hbl : b < w.heap.size := (Array.getElem?_eq_some_iff.1 hb).1
  have hcl : c < w.heap.size := (Array.getElem?_eq_some_iff.1 hc).1
  have b1 := box_below w (.cells #[.string ⟨#[]⟩, .bool false, .bool false] 65)
  have hZ := blk_new w (.cells #[.string ⟨#[]⟩, .bool false, .bool false] 65)
  have hb1 := blk_keep b1 hb
  have hc1 := blk_keep b1 hc
  obtain ⟨W1, hW1⟩ : ∃ W, w.alloc (.cells #[.string ⟨#[]⟩, .bool false, .bool false] 65) = W := ⟨_, rfl⟩
  rw [hW1] at b1 hZ hb1 hc1
  obtain ⟨ck, fk⟩ := cell_of hb1 hk
  obtain ⟨cc, fc⟩ := cells1 hc1
  have hb2 := blk_set hb1 k (.int .i64 M)
  have hc2 : (W1.setCell ⟨b, k, none⟩ (.int .i64 M)).heap[c]? = some (.cells #[.pointer (some ⟨b, k, none⟩)] tp (0, 0)) := (Below.heap_setCell W1 ⟨b, k, none⟩ _ c (by simpa using fun h => hbc h.symm)).trans hc1
  have hZ2 : (W1.setCell ⟨b, k, none⟩ (.int .i64 M)).heap[w.heap.size]? = some (.cells #[.string ⟨#[]⟩, .bool false, .bool false] 65 (0, 0)) := (Below.heap_setCell W1 ⟨b, k, none⟩ _ w.heap.size (by simp; omega)).trans hZ
  have hg2 : w.grownBy (W1.setCell ⟨b, k, none⟩ (.int .i64 M)).drew (some b) := grown_drew (grown_set (grown_of_below b1 _) _ _)
  obtain ⟨cc2, -⟩ := cells1 hc2
  have hkl : k < cs.size := (Array.getElem?_eq_some_iff.1 hk).1
  obtain ⟨ck2, -⟩ := cell_of hb2 (k := k) (v := .int .i64 M) (by simp [hkl])
  have H := Lib.hid (And.intro hb2 (And.intro hZ2 hg2))
  have hsz : W1.heap.size = w.heap.size + 1 := by rw [← hW1]; simp
  have HS := Lib.hid hsz
  clear b1 hZ hb1 hc1 hb hc hk hb2 hc2 hZ2 hg2 hkl hsz
  go_enter Tryd.func76, Tryd.ntmps76
  go_wp2_with fail
  go_region
  go_wp2_with fail
  refine (xdigits_any M _ hin).mono ?_
  rintro _ W3 ⟨rfl, hb3⟩
  have Hb3 := Lib.hid hb3
  clear hb3
  go_wp2_with fail
  refine (tell_any _ _).mono ?_
  rintro _ W4 ⟨rfl, hb4⟩
  have hb34 := below_then Hb3.out hb4
  have hblk := blk_keep hb34 (show (W1.setCell ⟨b, k, none⟩ (.int .i64 M)).drew.heap[b]? = _ from H.out.1)
  have hres := blk_keep hb34 (show (W1.setCell ⟨b, k, none⟩ (.int .i64 M)).drew.heap[w.heap.size]? = _ from H.out.2.1)
  have hg4 := grown_below H.out.2.2 hb34
  obtain ⟨r0, r1, r2, f0, f1, f2⟩ := cells3 hres
  have HF := Lib.hid (And.intro hblk (And.intro hres hg4))
  clear hb34 hblk hres hg4 hb4
  go_wp2_with fail
  have hZ := set3 HF.out.2.1 (.string ⟨(digP M).toArray⟩) (.bool true) (.bool true)
  have hG := grown3 HF.out.2.2 (Nat.le_refl _) (.string ⟨(digP M).toArray⟩) (.bool true) (.bool true)
  have hP := set3_other HF.out.1 (show w.heap.size ≠ b by omega) (.string ⟨(digP M).toArray⟩) (.bool true) (.bool true)
  obtain ⟨WF, hWF⟩ : ∃ W, ((W4.setCell ⟨w.heap.size, 0, none⟩ (.string ⟨(digP M).toArray⟩)).setCell ⟨w.heap.size, 1, none⟩ (.bool true)).setCell ⟨w.heap.size, 2, none⟩ (.bool true) = W := ⟨_, rfl⟩
  rw [hWF] at hZ hG hP ⊢
  obtain ⟨z0, z1, z2, -, -, -⟩ := cells3 hZ
  exact bodyPost_ret (v := .agg #[.string ⟨(digP M).toArray⟩, .bool true, .bool true]) (by simp [results, Tryd.results76, go_sem, z0, z1, z2]) rfl ⟨⟨_, true, true⟩, rfl, hG, rfl, hP⟩
end Go.Proofs.YtmehjcimohhopaaDoor

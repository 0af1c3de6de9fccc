/- Answers to a value: a list of words. No statement is proved here. -/
import Derived.Test.YtmehjcimohhopaaDoorTxtH
namespace Go.Proofs.YtmehjcimohhopaaDoor
open Go.RowKit

/-- Go's own variable bytealg.MaxLen holds some number. -/
def Mx (w : World) : Prop := ∃ m : Int, w.cell? ⟨1, 0, none⟩ = some (.int .i64 m)
theorem Mx.keep {w w' : World} (h : Mx w) (hb : Below w.heap.size w w') : Mx w' := by
  obtain ⟨m, hm⟩ := h
  exact ⟨m, cell_keep hb hm⟩
def comma : ByteArray := ⟨#[44]⟩
/-- A value's words. -/
def wordsB (v : ByteArray) : List ByteArray := Lib.splitB comma 0 (Lib.countB v comma) v
theorem wordsB_len (v : ByteArray) : (wordsB v).length = Lib.countB v comma + 1 := Lib.splitB_all comma (by decide) 0 _ v rfl
theorem split_any (v : ByteArray) (w : World) (hs : v.size < 4294967281) (hm : Mx w) :
    Calls Tryd.prog 43 #[.string v, .string comma] w fun e w' => e = .returned (.slice (some ⟨w.heap.size, 0, none⟩) (wordsB v).length (wordsB v).length) ∧ Below w.heap.size w w' ∧ w'.heap[w.heap.size]? = some (.cells ((wordsB v).map Value.string).toArray 9 (0, 0)) := by
  obtain ⟨m, hm⟩ := hm
  refine (Tryd.strings_Split v comma m w hs hm (by decide)).mono ?_
  rintro _ w' ⟨rfl, rfl⟩
  rw [wordsB_len]
  exact ⟨rfl, box_below _ _, blk_new _ _⟩
theorem word_at {w : World} {g : Nat} {ws : List ByteArray} {t : TypeId} (h : w.heap[g]? = some (.cells (ws.map Value.string).toArray t (0, 0))) (k : Nat) (hk : k < ws.length) : w.cell? ⟨g, k, none⟩ = some (.string ws[k]) :=
  (cell_of h (k := k) (v := .string ws[k]) (by simp [hk])).1

def noneS : ByteArray := ⟨#[78, 111, 110, 101]⟩
def crcS : ByteArray := ⟨#[67, 82, 67, 51, 50, 67]⟩
def rejS : ByteArray := ⟨#[82, 101, 106, 101, 99, 116]⟩
def isNone (s : ByteArray) : Bool := s.toList == [78, 111, 110, 101]
def isCrc (s : ByteArray) : Bool := s.toList == [67, 82, 67, 51, 50, 67]
def isD (s : ByteArray) : Bool := isNone s || isCrc s
/-- What comes of a list of words, the first one that is had. -/
def digAns (cs : Array Value) (k : Nat) (ws : List ByteArray) : Array Value × Ans :=
  match ws.find? isD with
  | some x => (cs.setIfInBounds k (.bool (isCrc x)), ⟨x, true, true⟩)
  | none => (cs, ⟨rejS, true, true⟩)

theorem find_at {α : Type} {p : α → Bool} : ∀ (l : List α) (j : Nat) (h : j < l.length), (∀ x ∈ l.take j, p x = false) → p l[j] = true → l.find? p = some l[j]
  | x :: l, 0, _, _, hp => by
    have hp : p x = true := hp
    show (x :: l).find? p = some x
    rw [List.find?_cons, hp]
  | x :: l, j + 1, h, ha, hp => by
    have hx : p x = false := ha x (by simp)
    rw [List.find?_cons, hx]
    exact find_at l j (by simpa using h) (fun y hy => ha y (by simp [hy])) hp

set_option maxRecDepth 100000 in
set_option maxHeartbeats 1000000 in
theorem digest_any (b k : Nat) (cs : Array Value) (h : Bool) (v : ByteArray) (w : World) (hb : w.heap[b]? = some (.cells cs 32 (0, 0))) (hk : cs[k]? = some (.bool h)) (hs : v.size < 4294967281) (hm : Mx w) :
    Calls Tryd.prog 51 #[.string v, .pointer (some ⟨b, k, none⟩)] w (AnsTo w b (digAns cs k (wordsB v))) := by
  have hbl : b < w.heap.size := (Array.getElem?_eq_some_iff.1 hb).1
  have b1 := box_below w (.cells #[.string ⟨#[]⟩, .bool false, .bool false] 65)
  have hZ := blk_new w (.cells #[.string ⟨#[]⟩, .bool false, .bool false] 65)
  obtain ⟨W1, hW1⟩ : ∃ W, w.alloc (.cells #[.string ⟨#[]⟩, .bool false, .bool false] 65) = W := ⟨_, rfl⟩
  rw [hW1] at b1 hZ
  have hsp := split_any v W1 hs (hm.keep b1)
  obtain ⟨ws, hws⟩ : ∃ ws, ws = wordsB v := ⟨_, rfl⟩
  rw [← hws] at hsp ⊢
  have Hsp := Lib.hid hsp
  have H1 := Lib.hid (And.intro b1 (And.intro hZ (And.intro hb hk)))
  have hlen : (ws.length : Int) ≤ 4294967281 := by
    have h1 := wordsB_len v
    have h2 := Lib.countB_le comma (by decide) v.size v (Nat.le_refl _)
    rw [← hws] at h1
    omega
  clear hsp b1 hZ hb hk hws hm hs
  go_enter Tryd.func51, Tryd.ntmps51
  go_wp2_with fail
  refine Hsp.out.mono ?_
  rintro _ W2 ⟨rfl, hb2, hrow⟩
  have hres := blk_keep hb2 H1.out.2.1
  have hpar := blk_keep hb2 (blk_keep H1.out.1 H1.out.2.2.1)
  have hbb := below_then H1.out.1 hb2
  have H2 := Lib.hid (And.intro hres (And.intro hpar (And.intro hbb hrow)))
  clear hres hpar hbb hrow hb2
  go_wp2_with fail
  go_loop [10] (fun i => ∃ j : Nat, j ≤ ws.length ∧ i = .int .i64 j ∧ Hid (∀ x ∈ ws.take j, isD x = false)) (fun i => ws.length - (intOf i).toNat)
  case atStart => exact ⟨0, Nat.zero_le _, rfl, Lib.hid (by simp)⟩
  case round =>
    obtain ⟨j, hj, rfl, HJ⟩ := hrel
    by_cases hlt : j < ws.length
    · have hc := word_at H2.out.2.2.2 j hlt
      have hlt2 : (j : Int) < ws.length := by omega
      obtain ⟨x, hx⟩ : ∃ x, ws[j] = x := ⟨_, rfl⟩
      rw [hx] at hc
      have Hx := Lib.hid hx
      clear hx
      by_cases hn : x.toList = [78, 111, 110, 101]
      · skip
        have hn2 : (x.toList == [78, 111, 110, 101]) = true := by simpa using hn
        have hc2 : (x.toList == [67, 82, 67, 51, 50, 67]) = false := by rw [hn]; rfl
        have hfd : ws.find? isD = some x := by
          rw [← Hx.out]
          exact find_at ws j hlt HJ.out (by rw [Hx.out]; unfold isD isNone isCrc; rw [hn2, hc2]; rfl)
        have hres : digAns cs k ws = (cs.setIfInBounds k (.bool false), ⟨x, true, true⟩) := by
          unfold digAns
          rw [hfd]
          show (cs.setIfInBounds k (.bool (x.toList == [67, 82, 67, 51, 50, 67])), _) = _
          rw [hc2]
        have Hres := Lib.hid hres
        obtain ⟨ck, fk⟩ := cell_of H2.out.2.1 H1.out.2.2.2
        have hp3 := blk_set H2.out.2.1 k (.bool false)
        have hr3 : (W2.setCell ⟨b, k, none⟩ (.bool false)).heap[w.heap.size]? = some (.cells #[.string ⟨#[]⟩, .bool false, .bool false] 65 (0, 0)) := (Below.heap_setCell W2 ⟨b, k, none⟩ _ w.heap.size (by simp; omega)).trans H2.out.1
        have hg3 : w.grownBy (W2.setCell ⟨b, k, none⟩ (.bool false)) (some b) := grown_set (grown_of_below H2.out.2.2.1 _) _ _
        have H3 := Lib.hid (And.intro hp3 (And.intro hr3 hg3))
        clear hfd hres hp3 hr3 hg3
        go_wp2_with fail
        refine (tell_any x _).mono ?_
        rintro _ W4 ⟨rfl, hb4⟩
        have hp4 := blk_keep hb4 H3.out.1
        have hr4 := blk_keep hb4 H3.out.2.1
        have hg4 := grown_below H3.out.2.2 hb4
        obtain ⟨r0, r1, r2, f0, f1, f2⟩ := cells3 hr4
        have H4 := Lib.hid (And.intro hp4 (And.intro hr4 hg4))
        clear hp4 hr4 hg4 hb4 ck fk
        go_wp2_with fail
        have hZ := set3 H4.out.2.1 (.string x) (.bool true) (.bool true)
        have hG := grown3 H4.out.2.2 (Nat.le_refl _) (.string x) (.bool true) (.bool true)
        have hP := set3_other H4.out.1 (show w.heap.size ≠ b by omega) (.string x) (.bool true) (.bool true)
        obtain ⟨WF, hWF⟩ : ∃ W, ((W4.setCell ⟨w.heap.size, 0, none⟩ (.string x)).setCell ⟨w.heap.size, 1, none⟩ (.bool true)).setCell ⟨w.heap.size, 2, none⟩ (.bool true) = W := ⟨_, rfl⟩
        rw [hWF] at hZ hG hP ⊢
        obtain ⟨z0, z1, z2, -, -, -⟩ := cells3 hZ
        exact bodyPost_ret (v := .agg #[.string x, .bool true, .bool true]) (by simp [results, Tryd.results51, go_sem, z0, z1, z2]) rfl ⟨by rw [Hres.out]; rfl, hG, by rw [Hres.out]; exact hP⟩
      · by_cases hcr : x.toList = [67, 82, 67, 51, 50, 67]
        · skip
          have hn2 : (x.toList == [78, 111, 110, 101]) = false := by simpa using hn
          have hc2 : (x.toList == [67, 82, 67, 51, 50, 67]) = true := by simpa using hcr
          have hfd : ws.find? isD = some x := by
            rw [← Hx.out]
            exact find_at ws j hlt HJ.out (by rw [Hx.out]; unfold isD isNone isCrc; rw [hn2, hc2]; rfl)
          have hres : digAns cs k ws = (cs.setIfInBounds k (.bool true), ⟨x, true, true⟩) := by
            unfold digAns
            rw [hfd]
            show (cs.setIfInBounds k (.bool (x.toList == [67, 82, 67, 51, 50, 67])), _) = _
            rw [hc2]
          have Hres := Lib.hid hres
          obtain ⟨ck, fk⟩ := cell_of H2.out.2.1 H1.out.2.2.2
          have hp3 := blk_set H2.out.2.1 k (.bool true)
          have hr3 : (W2.setCell ⟨b, k, none⟩ (.bool true)).heap[w.heap.size]? = some (.cells #[.string ⟨#[]⟩, .bool false, .bool false] 65 (0, 0)) := (Below.heap_setCell W2 ⟨b, k, none⟩ _ w.heap.size (by simp; omega)).trans H2.out.1
          have hg3 : w.grownBy (W2.setCell ⟨b, k, none⟩ (.bool true)) (some b) := grown_set (grown_of_below H2.out.2.2.1 _) _ _
          have H3 := Lib.hid (And.intro hp3 (And.intro hr3 hg3))
          clear hfd hres hp3 hr3 hg3
          go_wp2_with fail
          refine (tell_any x _).mono ?_
          rintro _ W4 ⟨rfl, hb4⟩
          have hp4 := blk_keep hb4 H3.out.1
          have hr4 := blk_keep hb4 H3.out.2.1
          have hg4 := grown_below H3.out.2.2 hb4
          obtain ⟨r0, r1, r2, f0, f1, f2⟩ := cells3 hr4
          have H4 := Lib.hid (And.intro hp4 (And.intro hr4 hg4))
          clear hp4 hr4 hg4 hb4 ck fk
          go_wp2_with fail
          have hZ := set3 H4.out.2.1 (.string x) (.bool true) (.bool true)
          have hG := grown3 H4.out.2.2 (Nat.le_refl _) (.string x) (.bool true) (.bool true)
          have hP := set3_other H4.out.1 (show w.heap.size ≠ b by omega) (.string x) (.bool true) (.bool true)
          obtain ⟨WF, hWF⟩ : ∃ W, ((W4.setCell ⟨w.heap.size, 0, none⟩ (.string x)).setCell ⟨w.heap.size, 1, none⟩ (.bool true)).setCell ⟨w.heap.size, 2, none⟩ (.bool true) = W := ⟨_, rfl⟩
          rw [hWF] at hZ hG hP ⊢
          obtain ⟨z0, z1, z2, -, -, -⟩ := cells3 hZ
          exact bodyPost_ret (v := .agg #[.string x, .bool true, .bool true]) (by simp [results, Tryd.results51, go_sem, z0, z1, z2]) rfl ⟨by rw [Hres.out]; rfl, hG, by rw [Hres.out]; exact hP⟩
        · have hn2 : (x.toList == [78, 111, 110, 101]) = false := by simpa using hn
          have hc2 : (x.toList == [67, 82, 67, 51, 50, 67]) = false := by simpa using hcr
          go_wp2_with fail
          go_round
          case rel =>
            refine ⟨j + 1, hlt, by go_num, Lib.hid ?_⟩
            intro y hy
            rw [List.take_succ_eq_append_getElem hlt, List.mem_append] at hy
            rcases hy with hy | hy
            · exact HJ.out y hy
            · rw [List.mem_singleton.1 hy, Hx.out]
              unfold isD isNone isCrc
              rw [hn2, hc2]
              rfl
          case measure => simp [intOf]; omega
    · obtain rfl : j = ws.length := by omega
      have hres : digAns cs k ws = (cs, ⟨rejS, true, true⟩) := by
        unfold digAns
        rw [List.find?_eq_none.2 (fun x hx => by
          have := HJ.out x (by rw [List.take_of_length_le (Nat.le_refl _)]; exact hx)
          rw [this]; simp)]
      have Hres := Lib.hid hres
      clear hres
      go_wp2_with fail
      refine (tell_any rejS _).mono ?_
      rintro _ W4 ⟨rfl, hb4⟩
      have hp4 := blk_keep hb4 H2.out.2.1
      have hr4 := blk_keep hb4 H2.out.1
      have hg4 := grown_of_below (below_then H2.out.2.2.1 hb4) (some b)
      obtain ⟨r0, r1, r2, f0, f1, f2⟩ := cells3 hr4
      have H4 := Lib.hid (And.intro hp4 (And.intro hr4 hg4))
      clear hp4 hr4 hg4 hb4
      go_wp2_with fail
      have hZ := set3 H4.out.2.1 (.string rejS) (.bool true) (.bool true)
      have hG := grown3 H4.out.2.2 (Nat.le_refl _) (.string rejS) (.bool true) (.bool true)
      have hP := set3_other H4.out.1 (show w.heap.size ≠ b by omega) (.string rejS) (.bool true) (.bool true)
      obtain ⟨WF, hWF⟩ : ∃ W, ((W4.setCell ⟨w.heap.size, 0, none⟩ (.string rejS)).setCell ⟨w.heap.size, 1, none⟩ (.bool true)).setCell ⟨w.heap.size, 2, none⟩ (.bool true) = W := ⟨_, rfl⟩
      rw [hWF] at hZ hG hP ⊢
      obtain ⟨z0, z1, z2, -, -, -⟩ := cells3 hZ
      exact bodyPost_ret (v := .agg #[.string rejS, .bool true, .bool true]) (by simp [results, Tryd.results51, go_sem, z0, z1, z2]) rfl ⟨by rw [Hres.out]; rfl, hG, by rw [Hres.out]; exact hP⟩
end Go.Proofs.YtmehjcimohhopaaDoor

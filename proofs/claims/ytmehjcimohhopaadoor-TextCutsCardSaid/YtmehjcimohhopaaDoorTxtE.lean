/- Answers to a value: the program's small functions. No statement is proved here. -/
import Derived.Test.YtmehjcimohhopaaDoorTxtC
import Derived.Test.YtmehjcimohhopaaDoorTxtD
namespace Go.Proofs.YtmehjcimohhopaaDoor
open Go.RowKit

theorem set3 {W : World} {b : Nat} {x0 x1 x2 : Value} {t : TypeId} (h : W.heap[b]? = some (.cells #[x0, x1, x2] t (0, 0))) (y0 y1 y2 : Value) :
    (((W.setCell ⟨b, 0, none⟩ y0).setCell ⟨b, 1, none⟩ y1).setCell ⟨b, 2, none⟩ y2).heap[b]? = some (.cells #[y0, y1, y2] t (0, 0)) := by
  simp [World.setCell, Array.getElem?_modify, h]
theorem below3 {n b : Nat} {w W : World} (h : Below n w W) (hn : n ≤ b) (y0 y1 y2 : Value) :
    Below n w (((W.setCell ⟨b, 0, none⟩ y0).setCell ⟨b, 1, none⟩ y1).setCell ⟨b, 2, none⟩ y2) :=
  ((h.setCell (p := ⟨b, 0, none⟩) hn y0).setCell (p := ⟨b, 1, none⟩) hn y1).setCell (p := ⟨b, 2, none⟩) hn y2
theorem grown3 {w W : World} {r : Option Nat} {b : Nat} (h : w.grownBy W r) (hb : w.heap.size ≤ b) (y0 y1 y2 : Value) :
    w.grownBy (((W.setCell ⟨b, 0, none⟩ y0).setCell ⟨b, 1, none⟩ y1).setCell ⟨b, 2, none⟩ y2) r :=
  grown_new' (grown_new' (grown_new' h hb y0) hb y1) hb y2

theorem grown_belowR {w w1 w2 : World} {r : Option Nat} (hb : Below w.heap.size w w1) (hg : w1.grownBy w2 r) (_hr : ∀ k, r = some k → k < w.heap.size) : w.grownBy w2 r :=
  ⟨hg.os.trans hb.os, hg.tape.trans hb.tape, hg.output.trans hb.output, Nat.le_trans hb.size hg.size, fun i hi hne => (hg.block i (Nat.lt_of_lt_of_le hi hb.size) hne).trans (hb.block i hi)⟩
theorem tell_any (s : ByteArray) (w : World) : Calls Tryd.prog 49 #[.string s] w fun e w' => e = .returned (.agg #[.string s, .bool true, .bool true]) ∧ Below w.heap.size w w' := by
  have b1 := box_below w (.cells #[.string s, .bool true, .bool true] 65)
  have hZ := blk_new w (.cells #[.string s, .bool true, .bool true] 65)
  obtain ⟨W1, hW1⟩ : ∃ W, w.alloc (.cells #[.string s, .bool true, .bool true] 65) = W := ⟨_, rfl⟩
  rw [hW1] at b1 hZ
  obtain ⟨z0, z1, z2, -, -, -⟩ := cells3 hZ
  clear hZ
  go_enter Tryd.func49, Tryd.ntmps49
  go_wp2_with fail
  exact bodyPost_ret (v := .agg #[.string s, .bool true, .bool true]) (by simp [results, Tryd.results49, go_sem, z0, z1, z2]) rfl ⟨rfl, b1⟩
def yesS : ByteArray := ⟨#[89, 101, 115]⟩
def noS : ByteArray := ⟨#[78, 111]⟩
def flagS (b : Bool) : ByteArray := if b then yesS else noS
theorem flag_any (b : Bool) (w : World) : Calls Tryd.prog 57 #[.bool b] w fun e w' => e = .returned (.agg #[.string (flagS b), .bool true, .bool true]) ∧ Below w.heap.size w w' := by
  have b1 := box_below w (.cells #[.string ⟨#[]⟩, .bool false, .bool false] 65)
  have hZ := blk_new w (.cells #[.string ⟨#[]⟩, .bool false, .bool false] 65)
  have Hb1 := Lib.hid b1
  have HZ := Lib.hid hZ
  clear b1 hZ
  have ht := fun s => tell_any s (w.alloc (.cells #[.string ⟨#[]⟩, .bool false, .bool false] 65))
  have Ht := Lib.hid ht
  clear ht
  cases b with
  | true =>
    go_enter Tryd.func57, Tryd.ntmps57
    go_wp2_with fail
    refine (Ht.out yesS).mono ?_
    rintro _ w1 ⟨rfl, hb⟩
    have hblk := blk_keep hb HZ.out
    have hbb := below_then Hb1.out hb
    obtain ⟨c0, c1, c2, f0, f1, f2⟩ := cells3 hblk
    have Hblk := Lib.hid hblk
    clear hblk hb
    go_wp2_with fail
    have hZ := set3 Hblk.out (.string yesS) (.bool true) (.bool true)
    have hB := below3 hbb (Nat.le_refl _) (.string yesS) (.bool true) (.bool true)
    obtain ⟨z0, z1, z2, -, -, -⟩ := cells3 hZ
    exact bodyPost_ret (v := .agg #[.string yesS, .bool true, .bool true]) (by simp [results, Tryd.results57, go_sem, z0, z1, z2]) rfl ⟨rfl, hB⟩
  | false =>
    go_enter Tryd.func57, Tryd.ntmps57
    go_wp2_with fail
    refine (Ht.out noS).mono ?_
    rintro _ w1 ⟨rfl, hb⟩
    have hblk := blk_keep hb HZ.out
    have hbb := below_then Hb1.out hb
    obtain ⟨c0, c1, c2, f0, f1, f2⟩ := cells3 hblk
    have Hblk := Lib.hid hblk
    clear hblk hb
    go_wp2_with fail
    have hZ := set3 Hblk.out (.string noS) (.bool true) (.bool true)
    have hB := below3 hbb (Nat.le_refl _) (.string noS) (.bool true) (.bool true)
    obtain ⟨z0, z1, z2, -, -, -⟩ := cells3 hZ
    exact bodyPost_ret (v := .agg #[.string noS, .bool true, .bool true]) (by simp [results, Tryd.results57, go_sem, z0, z1, z2]) rfl ⟨rfl, hB⟩

/-- What comes of a value that is answered: the answer, whether it is told, whether the value can be. -/
structure Ans where
  val : ByteArray
  told : Bool
  ok : Bool
def ansV (a : Ans) : Value := .agg #[.string a.val, .bool a.told, .bool a.ok]

/-- What comes of a value that is to be a number within bounds: nothing, or what a function makes of the number. -/
def NumTo (w : World) (lo hi : Int) (p : Int × Int) (r : Option Nat) (R : Ans → World → Prop) (e : Ending) (w' : World) : Prop :=
  (¬ (p.2 = 0 ∧ lo ≤ p.1 ∧ p.1 ≤ hi) ∧ e = .returned (ansV ⟨⟨#[]⟩, false, false⟩) ∧ Below w.heap.size w w') ∨
  ((p.2 = 0 ∧ lo ≤ p.1 ∧ p.1 ≤ hi) ∧ ∃ a, e = .returned (ansV a) ∧ w.grownBy w' r ∧ R a w')
theorem numTo_no {w w' : World} {lo hi N E : Int} {r : Option Nat} {R : Ans → World → Prop} (h : ¬ (E = 0 ∧ lo ≤ N ∧ N ≤ hi)) (hb : Below w.heap.size w w') : NumTo w lo hi (N, E) r R (.returned (.agg #[.string ⟨#[]⟩, .bool false, .bool false])) w' :=
  .inl ⟨h, rfl, hb⟩

set_option maxRecDepth 100000 in
set_option maxHeartbeats 1000000 in
/-- A function value that is called on the number read: what it makes of it is carried on. -/
theorem number_any (v : ByteArray) (lo hi : Int) (f : FuncId) (caps : Array Value) (R : Ans → World → Prop) (w : World) (r : Option Nat)
    (hrun : ∀ (args : Array Value) (w : World), Sem.run Tryd.prog (callFunc f args) w = .ok (.enter f args) w)
    (hF : (numP v.data.toList).2 = 0 → lo ≤ (numP v.data.toList).1 → (numP v.data.toList).1 ≤ hi → ∀ W, Below w.heap.size w W → Calls Tryd.prog f (#[.int .i64 (numP v.data.toList).1] ++ caps) W fun e W' => ∃ a, e = .returned (ansV a) ∧ W.grownBy W' r ∧ R a W')
    (hr : ∀ k, r = some k → k < w.heap.size) (hR : ∀ a W b x y z, w.heap.size ≤ b → R a W → R a (((W.setCell ⟨b, 0, none⟩ x).setCell ⟨b, 1, none⟩ y).setCell ⟨b, 2, none⟩ z)) :
    Calls Tryd.prog 52 #[.string v, .int .i64 lo, .int .i64 hi, .func (.func f) #[] caps] w (NumTo w lo hi (numP v.data.toList) r R) := by
  have b1 := box_below w (.cells #[.string ⟨#[]⟩, .bool false, .bool false] 65)
  have hZ := blk_new w (.cells #[.string ⟨#[]⟩, .bool false, .bool false] 65)
  have hn := xnumber_any v (w.alloc (.cells #[.string ⟨#[]⟩, .bool false, .bool false] 65))
  have Hb1 := Lib.hid b1
  have HZ := Lib.hid hZ
  have Hn := Lib.hid hn
  have HF := Lib.hid hF
  have HR := Lib.hid (And.intro hr hR)
  obtain ⟨⟨N, E⟩, hN⟩ : ∃ p, p = numP v.data.toList := ⟨_, rfl⟩
  rw [← hN] at Hn HF ⊢
  simp only at Hn HF
  clear b1 hZ hn hF hN hr hR
  go_enter Tryd.func52, Tryd.ntmps52
  go_wp2_with fail
  refine Hn.out.mono ?_
  rintro _ w1 ⟨rfl, hb⟩
  have hblk := blk_keep hb HZ.out
  have hbb := below_then Hb1.out hb
  obtain ⟨c0, c1, c2, f0, f1, f2⟩ := cells3 hblk
  have Hblk := Lib.hid hblk
  have Hbb := Lib.hid hbb
  clear hblk hb hbb
  by_cases hE : E = 0
  · have hEb : (E != 0) = false := by simpa using hE
    have HE := Lib.hid hE
    clear hE
    by_cases hlo : N < lo
    · go_wp2_with fail
      have hZ := set3 Hblk.out (.string ⟨#[]⟩) (.bool false) (.bool false)
      have hB := below3 Hbb.out (Nat.le_refl _) (.string ⟨#[]⟩) (.bool false) (.bool false)
      obtain ⟨z0, z1, z2, -, -, -⟩ := cells3 hZ
      exact bodyPost_ret (v := .agg #[.string ⟨#[]⟩, .bool false, .bool false]) (by simp [results, Tryd.results52, go_sem, z0, z1, z2]) rfl (numTo_no (by omega) hB)
    · by_cases hhi : N > hi
      · go_wp2_with fail
        have hZ := set3 Hblk.out (.string ⟨#[]⟩) (.bool false) (.bool false)
        have hB := below3 Hbb.out (Nat.le_refl _) (.string ⟨#[]⟩) (.bool false) (.bool false)
        obtain ⟨z0, z1, z2, -, -, -⟩ := cells3 hZ
        exact bodyPost_ret (v := .agg #[.string ⟨#[]⟩, .bool false, .bool false]) (by simp [results, Tryd.results52, go_sem, z0, z1, z2]) rfl (numTo_no (by omega) hB)
      · have HC := Lib.hid (HF.out HE.out (by omega) (by omega) w1 Hbb.out)
        go_wp2_with fail
        refine HC.out.mono ?_
        rintro _ w2 ⟨⟨av, at_, ao⟩, rfl, hg, hR⟩
        have hne : ∀ k, r = some k → k < w.heap.size := HR.out.1
        have hblk2 := grown_blk hg (b := w.heap.size) (by intro h; have := hne _ h.symm; omega) Hblk.out
        obtain ⟨c0, c1, c2, f0, f1, f2⟩ := cells3 hblk2
        have Hblk2 := Lib.hid hblk2
        have Hg := Lib.hid hg
        have HRR := Lib.hid hR
        clear hblk2 hg hR hne
        simp only [ansV]
        go_wp2_with fail
        have hZ := set3 Hblk2.out (.string av) (.bool at_) (.bool ao)
        have hB := grown3 (grown_belowR Hbb.out Hg.out HR.out.1) (Nat.le_refl _) (.string av) (.bool at_) (.bool ao)
        have hR3 := HR.out.2 _ _ w.heap.size (.string av) (.bool at_) (.bool ao) (Nat.le_refl _) HRR.out
        obtain ⟨WF, hWF⟩ : ∃ W, ((w2.setCell ⟨w.heap.size, 0, none⟩ (.string av)).setCell ⟨w.heap.size, 1, none⟩ (.bool at_)).setCell ⟨w.heap.size, 2, none⟩ (.bool ao) = W := ⟨_, rfl⟩
        rw [hWF] at hZ hB hR3 ⊢
        obtain ⟨z0, z1, z2, -, -, -⟩ := cells3 hZ
        exact bodyPost_ret (v := .agg #[.string av, .bool at_, .bool ao]) (by simp [results, Tryd.results52, go_sem, z0, z1, z2]) rfl (.inr ⟨⟨HE.out, by omega, by omega⟩, ⟨av, at_, ao⟩, rfl, hB, hR3⟩)
  · have hEb : (E != 0) = true := by simpa using hE
    go_wp2_with fail
    have hZ := set3 Hblk.out (.string ⟨#[]⟩) (.bool false) (.bool false)
    have hB := below3 Hbb.out (Nat.le_refl _) (.string ⟨#[]⟩) (.bool false) (.bool false)
    obtain ⟨z0, z1, z2, -, -, -⟩ := cells3 hZ
    exact bodyPost_ret (v := .agg #[.string ⟨#[]⟩, .bool false, .bool false]) (by simp [results, Tryd.results52, go_sem, z0, z1, z2]) rfl (numTo_no (by omega) hB)
end Go.Proofs.YtmehjcimohhopaaDoor

/- The program's answer to any pair. No statement is proved here. -/
import Derived.Test.YtmehjcimohhopaaDoorTxtK
namespace Go.Proofs.YtmehjcimohhopaaDoor
open Go.RowKit

def pc (r : Par × Ans) : Array Value × Ans := (parCells r.1, r.2)
def numA (P : Par) (v : ByteArray) (lo hi : Int) (F : Int → Par × Ans) : Par × Ans :=
  if (numP v.data.toList).2 = 0 ∧ lo ≤ (numP v.data.toList).1 ∧ (numP v.data.toList).1 ≤ hi then F (numP v.data.toList).1 else (P, zeroA)
def swA (P : Par) (v : ByteArray) (F : Bool → Par × Ans) : Par × Ans :=
  if v.toList = [89, 101, 115] then F true else if v.toList = [78, 111] then F false else (P, zeroA)
def digA (P : Par) (ws : List ByteArray) (F : Bool → Par) : Par × Ans :=
  match ws.find? isD with
  | some x => (F (isCrc x), ⟨x, true, true⟩)
  | none => (P, ⟨rejS, true, true⟩)
theorem numA_eq (P : Par) (v : ByteArray) (lo hi : Int) (F : Int → Array Value × Ans) (G : Int → Par × Ans) (h : ∀ n, F n = pc (G n)) : numAns (parCells P) v lo hi F = pc (numA P v lo hi G) := by
  unfold numAns numA
  split
  · exact h _
  · rfl
theorem swA_eq (P : Par) (v : ByteArray) (F : Bool → Array Value × Ans) (G : Bool → Par × Ans) (h : ∀ x, F x = pc (G x)) : swAns (parCells P) v F = pc (swA P v G) := by
  unfold swAns swA
  split
  · exact h _
  · split
    · exact h _
    · rfl
theorem digA_eq (P : Par) (k : Nat) (ws : List ByteArray) (G : Bool → Par) (h : ∀ x, (parCells P).setIfInBounds k (.bool x) = parCells (G x)) : digAns (parCells P) k ws = pc (digA P ws G) := by
  unfold digAns digA
  cases ws.find? isD with
  | some x => exact Prod.ext (h _) rfl
  | none => rfl
def strS : ByteArray := ⟨#[78, 111, 116, 85, 110, 100, 101, 114, 115, 116, 111, 111, 100]⟩
/-- What comes of a pair. -/
def ansP (P : Par) (k v : ByteArray) : Par × Ans :=
  if k.toList = [73, 110, 105, 116, 105, 97, 116, 111, 114, 78, 97, 109, 101] then ({ P with ini := v }, ⟨⟨#[]⟩, false, !(v.toList == [])⟩)
  else if k.toList = [84, 97, 114, 103, 101, 116, 78, 97, 109, 101] then ({ P with tgt := v }, ⟨⟨#[]⟩, false, !(v.toList == [])⟩)
  else if k.toList = [83, 101, 115, 115, 105, 111, 110, 84, 121, 112, 101] then ({ P with di := v.toList == [68, 105, 115, 99, 111, 118, 101, 114, 121] }, ⟨⟨#[]⟩, false, (v.toList == [68, 105, 115, 99, 111, 118, 101, 114, 121] || v.toList == [78, 111, 114, 109, 97, 108])⟩)
  else if k.toList = [73, 110, 105, 116, 105, 97, 116, 111, 114, 65, 108, 105, 97, 115] then (P, ⟨⟨#[]⟩, false, true⟩)
  else if k.toList = [65, 117, 116, 104, 77, 101, 116, 104, 111, 100] then (P, ⟨authS (wordsB v), true, true⟩)
  else if k.toList = [72, 101, 97, 100, 101, 114, 68, 105, 103, 101, 115, 116] then digA P (wordsB v) fun x => { P with hs := x }
  else if k.toList = [68, 97, 116, 97, 68, 105, 103, 101, 115, 116] then digA P (wordsB v) fun x => { P with ds := x }
  else if k.toList = [77, 97, 120, 82, 101, 99, 118, 68, 97, 116, 97, 83, 101, 103, 109, 101, 110, 116, 76, 101, 110, 103, 116, 104] then numA P v 512 16777215 fun n => ({ P with mo := if 65536 < n then 65536 else n }, ⟨⟨#[]⟩, false, true⟩)
  else if k.toList = [77, 97, 120, 66, 117, 114, 115, 116, 76, 101, 110, 103, 116, 104] then numA P v 512 16777215 fun n => ({ P with bu := if n < P.bu then n else P.bu }, ⟨⟨(digP (if n < P.bu then n else P.bu)).toArray⟩, true, true⟩)
  else if k.toList = [70, 105, 114, 115, 116, 66, 117, 114, 115, 116, 76, 101, 110, 103, 116, 104] then numA P v 512 16777215 fun n => ({ P with fi := if n < P.fi then n else P.fi }, ⟨⟨(digP (if n < P.fi then n else P.fi)).toArray⟩, true, true⟩)
  else if k.toList = [73, 110, 105, 116, 105, 97, 108, 82, 50, 84] then swA P v fun x => ({ P with asked := P.asked || x }, ⟨flagS (P.asked || x), true, true⟩)
  else if k.toList = [73, 109, 109, 101, 100, 105, 97, 116, 101, 68, 97, 116, 97] then swA P v fun x => ({ P with im := P.im && x }, ⟨flagS (P.im && x), true, true⟩)
  else if k.toList = [77, 97, 120, 67, 111, 110, 110, 101, 99, 116, 105, 111, 110, 115] then numA P v 1 65535 fun _n => (P, ⟨⟨#[49]⟩, true, true⟩)
  else if k.toList = [77, 97, 120, 79, 117, 116, 115, 116, 97, 110, 100, 105, 110, 103, 82, 50, 84] then numA P v 1 65535 fun _n => (P, ⟨⟨#[49]⟩, true, true⟩)
  else if k.toList = [69, 114, 114, 111, 114, 82, 101, 99, 111, 118, 101, 114, 121, 76, 101, 118, 101, 108] then numA P v 0 2 fun _n => (P, ⟨⟨#[48]⟩, true, true⟩)
  else if k.toList = [68, 101, 102, 97, 117, 108, 116, 84, 105, 109, 101, 50, 87, 97, 105, 116] then numA P v 0 3600 fun n => (P, ⟨⟨(digP (if n < 2 then 2 else n)).toArray⟩, true, true⟩)
  else if k.toList = [68, 101, 102, 97, 117, 108, 116, 84, 105, 109, 101, 50, 82, 101, 116, 97, 105, 110] then numA P v 0 3600 fun _n => (P, ⟨⟨#[48]⟩, true, true⟩)
  else if k.toList = [68, 97, 116, 97, 80, 68, 85, 73, 110, 79, 114, 100, 101, 114] then swA P v fun _ => (P, ⟨flagS true, true, true⟩)
  else if k.toList = [68, 97, 116, 97, 83, 101, 113, 117, 101, 110, 99, 101, 73, 110, 79, 114, 100, 101, 114] then swA P v fun _ => (P, ⟨flagS true, true, true⟩)
  else if k.toList = [73, 70, 77, 97, 114, 107, 101, 114] then swA P v fun _ => (P, ⟨flagS false, true, true⟩)
  else if k.toList = [79, 70, 77, 97, 114, 107, 101, 114] then swA P v fun _ => (P, ⟨flagS false, true, true⟩)
  else (P, ⟨strS, true, true⟩)

set_option maxRecDepth 100000 in
set_option maxHeartbeats 1000000 in
theorem ans_else (P : Par) (b : Nat) (k v : ByteArray) (w : World) (hb : w.heap[b]? = some (.cells (parCells P) 32 (0, 0)))
    (h0 : ¬ k.toList = [73, 110, 105, 116, 105, 97, 116, 111, 114, 78, 97, 109, 101])
    (h1 : ¬ k.toList = [84, 97, 114, 103, 101, 116, 78, 97, 109, 101])
    (h2 : ¬ k.toList = [83, 101, 115, 115, 105, 111, 110, 84, 121, 112, 101])
    (h3 : ¬ k.toList = [73, 110, 105, 116, 105, 97, 116, 111, 114, 65, 108, 105, 97, 115])
    (h4 : ¬ k.toList = [65, 117, 116, 104, 77, 101, 116, 104, 111, 100])
    (h5 : ¬ k.toList = [72, 101, 97, 100, 101, 114, 68, 105, 103, 101, 115, 116])
    (h6 : ¬ k.toList = [68, 97, 116, 97, 68, 105, 103, 101, 115, 116])
    (h7 : ¬ k.toList = [77, 97, 120, 82, 101, 99, 118, 68, 97, 116, 97, 83, 101, 103, 109, 101, 110, 116, 76, 101, 110, 103, 116, 104])
    (h8 : ¬ k.toList = [77, 97, 120, 66, 117, 114, 115, 116, 76, 101, 110, 103, 116, 104])
    (h9 : ¬ k.toList = [70, 105, 114, 115, 116, 66, 117, 114, 115, 116, 76, 101, 110, 103, 116, 104])
    (h10 : ¬ k.toList = [73, 110, 105, 116, 105, 97, 108, 82, 50, 84])
    (h11 : ¬ k.toList = [73, 109, 109, 101, 100, 105, 97, 116, 101, 68, 97, 116, 97])
    (h12 : ¬ k.toList = [77, 97, 120, 67, 111, 110, 110, 101, 99, 116, 105, 111, 110, 115])
    (h13 : ¬ k.toList = [77, 97, 120, 79, 117, 116, 115, 116, 97, 110, 100, 105, 110, 103, 82, 50, 84])
    (h14 : ¬ k.toList = [69, 114, 114, 111, 114, 82, 101, 99, 111, 118, 101, 114, 121, 76, 101, 118, 101, 108])
    (h15 : ¬ k.toList = [68, 101, 102, 97, 117, 108, 116, 84, 105, 109, 101, 50, 87, 97, 105, 116])
    (h16 : ¬ k.toList = [68, 101, 102, 97, 117, 108, 116, 84, 105, 109, 101, 50, 82, 101, 116, 97, 105, 110])
    (h17 : ¬ k.toList = [68, 97, 116, 97, 80, 68, 85, 73, 110, 79, 114, 100, 101, 114])
    (h18 : ¬ k.toList = [68, 97, 116, 97, 83, 101, 113, 117, 101, 110, 99, 101, 73, 110, 79, 114, 100, 101, 114])
    (h19 : ¬ k.toList = [73, 70, 77, 97, 114, 107, 101, 114])
    (h20 : ¬ k.toList = [79, 70, 77, 97, 114, 107, 101, 114])
    : Calls Tryd.prog 34 #[.pointer (some ⟨b, 0, none⟩), .string k, .string v] w (AnsTo w b (parCells P, ⟨strS, true, true⟩)) := by
  have g0 : (k.toList == [73, 110, 105, 116, 105, 97, 116, 111, 114, 78, 97, 109, 101]) = false := by simpa using h0
  have g1 : (k.toList == [84, 97, 114, 103, 101, 116, 78, 97, 109, 101]) = false := by simpa using h1
  have g2 : (k.toList == [83, 101, 115, 115, 105, 111, 110, 84, 121, 112, 101]) = false := by simpa using h2
  have g3 : (k.toList == [73, 110, 105, 116, 105, 97, 116, 111, 114, 65, 108, 105, 97, 115]) = false := by simpa using h3
  have g4 : (k.toList == [65, 117, 116, 104, 77, 101, 116, 104, 111, 100]) = false := by simpa using h4
  have g5 : (k.toList == [72, 101, 97, 100, 101, 114, 68, 105, 103, 101, 115, 116]) = false := by simpa using h5
  have g6 : (k.toList == [68, 97, 116, 97, 68, 105, 103, 101, 115, 116]) = false := by simpa using h6
  have g7 : (k.toList == [77, 97, 120, 82, 101, 99, 118, 68, 97, 116, 97, 83, 101, 103, 109, 101, 110, 116, 76, 101, 110, 103, 116, 104]) = false := by simpa using h7
  have g8 : (k.toList == [77, 97, 120, 66, 117, 114, 115, 116, 76, 101, 110, 103, 116, 104]) = false := by simpa using h8
  have g9 : (k.toList == [70, 105, 114, 115, 116, 66, 117, 114, 115, 116, 76, 101, 110, 103, 116, 104]) = false := by simpa using h9
  have g10 : (k.toList == [73, 110, 105, 116, 105, 97, 108, 82, 50, 84]) = false := by simpa using h10
  have g11 : (k.toList == [73, 109, 109, 101, 100, 105, 97, 116, 101, 68, 97, 116, 97]) = false := by simpa using h11
  have g12 : (k.toList == [77, 97, 120, 67, 111, 110, 110, 101, 99, 116, 105, 111, 110, 115]) = false := by simpa using h12
  have g13 : (k.toList == [77, 97, 120, 79, 117, 116, 115, 116, 97, 110, 100, 105, 110, 103, 82, 50, 84]) = false := by simpa using h13
  have g14 : (k.toList == [69, 114, 114, 111, 114, 82, 101, 99, 111, 118, 101, 114, 121, 76, 101, 118, 101, 108]) = false := by simpa using h14
  have g15 : (k.toList == [68, 101, 102, 97, 117, 108, 116, 84, 105, 109, 101, 50, 87, 97, 105, 116]) = false := by simpa using h15
  have g16 : (k.toList == [68, 101, 102, 97, 117, 108, 116, 84, 105, 109, 101, 50, 82, 101, 116, 97, 105, 110]) = false := by simpa using h16
  have g17 : (k.toList == [68, 97, 116, 97, 80, 68, 85, 73, 110, 79, 114, 100, 101, 114]) = false := by simpa using h17
  have g18 : (k.toList == [68, 97, 116, 97, 83, 101, 113, 117, 101, 110, 99, 101, 73, 110, 79, 114, 100, 101, 114]) = false := by simpa using h18
  have g19 : (k.toList == [73, 70, 77, 97, 114, 107, 101, 114]) = false := by simpa using h19
  have g20 : (k.toList == [79, 70, 77, 97, 114, 107, 101, 114]) = false := by simpa using h20
  clear h0 h1 h2 h3 h4 h5 h6 h7 h8 h9 h10 h11 h12 h13 h14 h15 h16 h17 h18 h19 h20
  have hbl : b < w.heap.size := (Array.getElem?_eq_some_iff.1 hb).1
  have b1 := box_below w (.cells #[.pointer (some ⟨b, 0, none⟩)] 88)
  have hc1 := blk_new w (.cells #[.pointer (some ⟨b, 0, none⟩)] 88)
  obtain ⟨W1, hW1⟩ : ∃ W, w.alloc (.cells #[.pointer (some ⟨b, 0, none⟩)] 88) = W := ⟨_, rfl⟩
  rw [hW1] at b1 hc1
  have hs1 := hsz_of hW1
  have b2 := box_below W1 (.cells #[.string ⟨#[]⟩, .bool false, .bool false] 65)
  have hZ := blk_new W1 (.cells #[.string ⟨#[]⟩, .bool false, .bool false] 65)
  have hc2 := blk_keep b2 hc1
  have hp2 := blk_keep b2 (blk_keep b1 hb)
  obtain ⟨W2, hW2⟩ : ∃ W, W1.alloc (.cells #[.string ⟨#[]⟩, .bool false, .bool false] 65) = W := ⟨_, rfl⟩
  rw [hW2] at b2 hZ hc2 hp2
  have hbW := below_then b1 b2
  obtain ⟨cc, -⟩ := cells1 hc2
  obtain ⟨r0, r1, r2, f0, f1, f2⟩ := cells3 hZ
  have Hbl := Lib.hid (And.intro hbl hs1)
  have H := Lib.hid (And.intro hbW (And.intro hZ (And.intro hp2 hc2)))
  have Hb := Lib.hid hb
  clear b1 hc1 b2 hZ hc2 hp2 hbW hb hs1
  go_enter Tryd.func34, Tryd.ntmps34
  go_wp2_with fail
  refine (tell_any strS _).mono ?_
  rintro _ W4 ⟨rfl, hb4⟩
  have hr4 := blk_keep hb4 H.out.2.1
  obtain ⟨r0, r1, r2, f0, f1, f2⟩ := cells3 hr4
  have H4 := Lib.hid (And.intro hr4 (And.intro (blk_keep hb4 H.out.2.2.1) (below_then H.out.1 hb4)))
  clear hr4 hb4
  go_wp2_with fail
  have hZ := set3 H4.out.1 (.string strS) (.bool true) (.bool true)
  have hG := grown3 (grown_of_below H4.out.2.2 (some b)) (show w.heap.size ≤ W1.heap.size by have := Hbl.out.2; omega) (.string strS) (.bool true) (.bool true)
  have hP := set3_other H4.out.2.1 (show W1.heap.size ≠ b by have := Hbl.out; omega) (.string strS) (.bool true) (.bool true)
  obtain ⟨WF, hWF⟩ : ∃ W, ((W4.setCell ⟨W1.heap.size, 0, none⟩ (.string strS)).setCell ⟨W1.heap.size, 1, none⟩ (.bool true)).setCell ⟨W1.heap.size, 2, none⟩ (.bool true) = W := ⟨_, rfl⟩
  rw [hWF] at hZ hG hP ⊢
  obtain ⟨z0, z1, z2, -, -, -⟩ := cells3 hZ
  exact bodyPost_ret (v := .agg #[.string strS, .bool true, .bool true]) (by simp [results, Tryd.results34, go_sem, z0, z1, z2]) rfl ⟨rfl, hG, hP⟩

theorem ansTo_eq {w W : World} {b : Nat} {r r' : Array Value × Ans} {e : Ending} (h : r = r') (k : AnsTo w b r' e W) : AnsTo w b r e W := by rw [h]; exact k
theorem answer_any (P : Par) (b : Nat) (k v : ByteArray) (w : World) (hb : w.heap[b]? = some (.cells (parCells P) 32 (0, 0))) (hs : v.size < 4294967281) (hm : Mx w) (hin : in64 P.bu ∧ in64 P.fi) :
    Calls Tryd.prog 34 #[.pointer (some ⟨b, 0, none⟩), .string k, .string v] w (AnsTo w b (pc (ansP P k v))) := by
  unfold ansP
  by_cases h0 : k.toList = [73, 110, 105, 116, 105, 97, 116, 111, 114, 78, 97, 109, 101]
  · rw [if_pos h0]
    refine (ans_ini P b k v w hb h0).mono ?_
    intro e W h
    refine ansTo_eq ?_ h
    exact rfl
  rw [if_neg h0]
  by_cases h1 : k.toList = [84, 97, 114, 103, 101, 116, 78, 97, 109, 101]
  · rw [if_pos h1]
    refine (ans_tgt P b k v w hb h1).mono ?_
    intro e W h
    refine ansTo_eq ?_ h
    exact rfl
  rw [if_neg h1]
  by_cases h2 : k.toList = [83, 101, 115, 115, 105, 111, 110, 84, 121, 112, 101]
  · rw [if_pos h2]
    refine (ans_session P b k v w hb h2).mono ?_
    intro e W h
    refine ansTo_eq ?_ h
    exact rfl
  rw [if_neg h2]
  by_cases h3 : k.toList = [73, 110, 105, 116, 105, 97, 116, 111, 114, 65, 108, 105, 97, 115]
  · rw [if_pos h3]
    refine (ans_alias P b k v w hb h3).mono ?_
    intro e W h
    refine ansTo_eq ?_ h
    exact rfl
  rw [if_neg h3]
  by_cases h4 : k.toList = [65, 117, 116, 104, 77, 101, 116, 104, 111, 100]
  · rw [if_pos h4]
    refine (ans_auth P b k v w hb hs hm h4).mono ?_
    intro e W h
    refine ansTo_eq ?_ h
    exact rfl
  rw [if_neg h4]
  by_cases h5 : k.toList = [72, 101, 97, 100, 101, 114, 68, 105, 103, 101, 115, 116]
  · rw [if_pos h5]
    refine (ans_head P b k v w hb hs hm h5).mono ?_
    intro e W h
    refine ansTo_eq ?_ h
    exact Eq.symm (digA_eq P 0 _ _ (fun _ => rfl))
  rw [if_neg h5]
  by_cases h6 : k.toList = [68, 97, 116, 97, 68, 105, 103, 101, 115, 116]
  · rw [if_pos h6]
    refine (ans_data P b k v w hb hs hm h6).mono ?_
    intro e W h
    refine ansTo_eq ?_ h
    exact Eq.symm (digA_eq P 1 _ _ (fun _ => rfl))
  rw [if_neg h6]
  by_cases h7 : k.toList = [77, 97, 120, 82, 101, 99, 118, 68, 97, 116, 97, 83, 101, 103, 109, 101, 110, 116, 76, 101, 110, 103, 116, 104]
  · rw [if_pos h7]
    refine (ans_most P b k v w hb h7).mono ?_
    intro e W h
    refine ansTo_eq ?_ h
    exact Eq.symm (numA_eq P v _ _ _ _ (fun _ => rfl))
  rw [if_neg h7]
  by_cases h8 : k.toList = [77, 97, 120, 66, 117, 114, 115, 116, 76, 101, 110, 103, 116, 104]
  · rw [if_pos h8]
    refine (ans_burst P b k v w hb hin.1 h8).mono ?_
    intro e W h
    refine ansTo_eq ?_ h
    exact Eq.symm (numA_eq P v _ _ _ _ (fun _ => rfl))
  rw [if_neg h8]
  by_cases h9 : k.toList = [70, 105, 114, 115, 116, 66, 117, 114, 115, 116, 76, 101, 110, 103, 116, 104]
  · rw [if_pos h9]
    refine (ans_first P b k v w hb hin.2 h9).mono ?_
    intro e W h
    refine ansTo_eq ?_ h
    exact Eq.symm (numA_eq P v _ _ _ _ (fun _ => rfl))
  rw [if_neg h9]
  by_cases h10 : k.toList = [73, 110, 105, 116, 105, 97, 108, 82, 50, 84]
  · rw [if_pos h10]
    refine (ans_asked P b k v w hb h10).mono ?_
    intro e W h
    refine ansTo_eq ?_ h
    exact Eq.symm (swA_eq P v _ _ (fun _ => rfl))
  rw [if_neg h10]
  by_cases h11 : k.toList = [73, 109, 109, 101, 100, 105, 97, 116, 101, 68, 97, 116, 97]
  · rw [if_pos h11]
    refine (ans_immed P b k v w hb h11).mono ?_
    intro e W h
    refine ansTo_eq ?_ h
    exact Eq.symm (swA_eq P v _ _ (fun _ => rfl))
  rw [if_neg h11]
  by_cases h12 : k.toList = [77, 97, 120, 67, 111, 110, 110, 101, 99, 116, 105, 111, 110, 115]
  · rw [if_pos h12]
    refine (ans_conn P b k v w hb h12).mono ?_
    intro e W h
    refine ansTo_eq ?_ h
    exact Eq.symm (numA_eq P v _ _ _ _ (fun _ => rfl))
  rw [if_neg h12]
  by_cases h13 : k.toList = [77, 97, 120, 79, 117, 116, 115, 116, 97, 110, 100, 105, 110, 103, 82, 50, 84]
  · rw [if_pos h13]
    refine (ans_out P b k v w hb h13).mono ?_
    intro e W h
    refine ansTo_eq ?_ h
    exact Eq.symm (numA_eq P v _ _ _ _ (fun _ => rfl))
  rw [if_neg h13]
  by_cases h14 : k.toList = [69, 114, 114, 111, 114, 82, 101, 99, 111, 118, 101, 114, 121, 76, 101, 118, 101, 108]
  · rw [if_pos h14]
    refine (ans_erl P b k v w hb h14).mono ?_
    intro e W h
    refine ansTo_eq ?_ h
    exact Eq.symm (numA_eq P v _ _ _ _ (fun _ => rfl))
  rw [if_neg h14]
  by_cases h15 : k.toList = [68, 101, 102, 97, 117, 108, 116, 84, 105, 109, 101, 50, 87, 97, 105, 116]
  · rw [if_pos h15]
    refine (ans_wait P b k v w hb h15).mono ?_
    intro e W h
    refine ansTo_eq ?_ h
    exact Eq.symm (numA_eq P v _ _ _ _ (fun _ => rfl))
  rw [if_neg h15]
  by_cases h16 : k.toList = [68, 101, 102, 97, 117, 108, 116, 84, 105, 109, 101, 50, 82, 101, 116, 97, 105, 110]
  · rw [if_pos h16]
    refine (ans_retain P b k v w hb h16).mono ?_
    intro e W h
    refine ansTo_eq ?_ h
    exact Eq.symm (numA_eq P v _ _ _ _ (fun _ => rfl))
  rw [if_neg h16]
  by_cases h17 : k.toList = [68, 97, 116, 97, 80, 68, 85, 73, 110, 79, 114, 100, 101, 114]
  · rw [if_pos h17]
    refine (ans_pdu P b k v w hb h17).mono ?_
    intro e W h
    refine ansTo_eq ?_ h
    exact Eq.symm (swA_eq P v _ _ (fun _ => rfl))
  rw [if_neg h17]
  by_cases h18 : k.toList = [68, 97, 116, 97, 83, 101, 113, 117, 101, 110, 99, 101, 73, 110, 79, 114, 100, 101, 114]
  · rw [if_pos h18]
    refine (ans_seq P b k v w hb h18).mono ?_
    intro e W h
    refine ansTo_eq ?_ h
    exact Eq.symm (swA_eq P v _ _ (fun _ => rfl))
  rw [if_neg h18]
  by_cases h19 : k.toList = [73, 70, 77, 97, 114, 107, 101, 114]
  · rw [if_pos h19]
    refine (ans_ifm P b k v w hb h19).mono ?_
    intro e W h
    refine ansTo_eq ?_ h
    exact Eq.symm (swA_eq P v _ _ (fun _ => rfl))
  rw [if_neg h19]
  by_cases h20 : k.toList = [79, 70, 77, 97, 114, 107, 101, 114]
  · rw [if_pos h20]
    refine (ans_ofm P b k v w hb h20).mono ?_
    intro e W h
    refine ansTo_eq ?_ h
    exact Eq.symm (swA_eq P v _ _ (fun _ => rfl))
  rw [if_neg h20]
  exact ans_else P b k v w hb h0 h1 h2 h3 h4 h5 h6 h7 h8 h9 h10 h11 h12 h13 h14 h15 h16 h17 h18 h19 h20
end Go.Proofs.YtmehjcimohhopaaDoor

/- The program's fixed talk, walked. No statement is proved here. -/
import Derived.Test.YtmehjcimohhopaaDoorTxtO
namespace Go.Proofs.YtmehjcimohhopaaDoor
open Go.RowKit

def defPar : Par := ⟨false, false, 8192, 8192, 262144, 65536, true, true, false, ⟨#[]⟩, ⟨#[]⟩⟩
def kHead : ByteArray := ⟨#[72, 101, 97, 100, 101, 114, 68, 105, 103, 101, 115, 116]⟩
def vHead : ByteArray := ⟨#[67, 82, 67, 51, 50, 67, 44, 78, 111, 110, 101]⟩
def kBurst : ByteArray := ⟨#[77, 97, 120, 66, 117, 114, 115, 116, 76, 101, 110, 103, 116, 104]⟩
def vBurst : ByteArray := ⟨#[49, 48, 48, 48]⟩
def kX : ByteArray := ⟨#[88]⟩
def vX : ByteArray := ⟨#[49]⟩
def vCrc : ByteArray := ⟨#[67, 82, 67, 51, 50, 67]⟩
def fixL : List Pr := [(kHead, vHead), (kBurst, vBurst), (kX, vX)]
theorem words_fix : wordsB vHead = [vCrc, ⟨#[78, 111, 110, 101]⟩] := by rfl
theorem ans_fix1 : ansP defPar kHead vHead = ({ defPar with hs := true }, ⟨vCrc, true, true⟩) := by
  unfold ansP
  simp only [ByteArray.toList_eq]
  rw [if_neg (by decide), if_neg (by decide), if_neg (by decide), if_neg (by decide), if_neg (by decide), if_pos (by decide), words_fix]
  have hC : isCrc vCrc = true := by unfold isCrc; rw [ByteArray.toList_eq]; decide
  have hD : [vCrc, ⟨#[78, 111, 110, 101]⟩].find? isD = some vCrc := by rw [List.find?_cons, show isD vCrc = true by unfold isD; rw [hC, Bool.or_true]]
  unfold digA
  rw [hD]
  show (_, _) = (_, _)
  rw [hC]
theorem ans_fix2 : ansP { defPar with hs := true } kBurst vBurst = ({ defPar with hs := true, bu := 1000 }, ⟨vBurst, true, true⟩) := by
  unfold ansP
  simp only [ByteArray.toList_eq]
  rw [if_neg (by decide), if_neg (by decide), if_neg (by decide), if_neg (by decide), if_neg (by decide), if_neg (by decide), if_neg (by decide), if_neg (by decide), if_pos (by decide)]
  unfold numA
  rw [if_pos (by decide)]
  rfl
theorem ans_fix3 : ansP { defPar with hs := true, bu := 1000 } kX vX = ({ defPar with hs := true, bu := 1000 }, ⟨strS, true, true⟩) := by
  unfold ansP
  simp only [ByteArray.toList_eq]
  repeat rw [if_neg (by decide)]
def fixPar : Par := { defPar with hs := true, bu := 1000, fi := 1000 }
theorem fixPar_v : parV fixPar = .agg #[.bool true, .bool false, .int .i64 8192, .int .i64 8192, .int .i64 1000, .int .i64 1000, .bool true, .bool true, .bool false, .string ⟨#[]⟩, .string ⟨#[]⟩] := rfl
theorem row_blk {S : Nat → Prop} {w : World} {b n sz : Nat} {cs : List Value} {t : TypeId} (h : w.heap[b]? = some (.cells cs.toArray t (0, 0))) (hS : S b) (hl : cs.length = n * sz) (hn : n ≤ maxLen) :
    RowAt S w (.slice (some ⟨b, 0, none⟩) n n) n sz cs :=
  ⟨hl, .inr ⟨b, 0, n, rfl, Nat.le_refl _, hn, hS, (Array.getElem?_eq_some_iff.1 h).1, fun i u hu => by rw [cell_of_row w b (0 + i) _ t (0, 0) h]; simpa using hu⟩⟩
theorem talk_fix : talkP defPar fixL = ([(kHead, vCrc), (kBurst, vBurst), (kX, strS)], fixPar, 0) := by
  have h : talkRun defPar fixL = some ([(kHead, vCrc), (kBurst, vBurst), (kX, strS)], { defPar with hs := true, bu := 1000 }) := by
    show talkStep (talkStep (talkStep (some ([], defPar)) (kHead, vHead)) (kBurst, vBurst)) (kX, vX) = _
    rw [show talkStep (some ([], defPar)) (kHead, vHead) = some ([(kHead, vCrc)], { defPar with hs := true }) by show (if (ansP defPar kHead vHead).2.ok = true then _ else _) = _; rw [ans_fix1]; rfl,
      show talkStep (some ([(kHead, vCrc)], { defPar with hs := true })) (kBurst, vBurst) = some ([(kHead, vCrc), (kBurst, vBurst)], { defPar with hs := true, bu := 1000 }) by show (if (ansP { defPar with hs := true } kBurst vBurst).2.ok = true then _ else _) = _; rw [ans_fix2]; rfl]
    show (if (ansP { defPar with hs := true, bu := 1000 } kX vX).2.ok = true then _ else _) = _
    rw [ans_fix3]
    rfl
  rw [talkP_end h]
  rfl
set_option maxRecDepth 100000 in
theorem xdefault_any (w : World) : Calls Tryd.prog 15 #[] w fun e w' => e = .returned (parV defPar) ∧ Below w.heap.size w w' := by
  go_enter Tryd.func15, Tryd.ntmps15
  go_wp2_with fail
  refine bodyPost_ret (results_cell_row rfl _ _ w.heap.size 32 (parCells defPar) (0, 0) _ rfl (blk_new w _) Tryd.underlying32 rfl (by kernel_rfl)) rfl ?_
  exact ⟨rfl, box_below _ _⟩
set_option maxRecDepth 100000 in
set_option maxHeartbeats 1000000 in
theorem known_any (w : World) (hm : Mx w) : Calls Tryd.prog 13 #[] w fun e w' => e = .returned (.bool true) ∧ Below w.heap.size w w' := by
  have hT := fun (W W1 : World) (hb0 : Below w.heap.size w W1) (hW : W.heap[W1.heap.size]? = some (.cells #[.string kHead, .string vHead, .string kBurst, .string vBurst, .string kX, .string vX] 46 (0, 0))) (hb : Below W1.heap.size W1 W) =>
    talk_any (S := fun _ => True) defPar (.slice (some ⟨W1.heap.size, 0, none⟩) 3 3) fixL W (row_blk (cs := pairCells fixL) hW trivial rfl (by decide)) (by decide) (by decide) (hm.keep (below_then hb0 hb)) (by simp only [in64, defPar]; omega)
  have HT := Lib.hid hT
  clear hm hT
  rw [talk_fix] at HT
  have c1 : vCrc.toList = [67, 82, 67, 51, 50, 67] := by rw [ByteArray.toList_eq]; rfl
  have c2 : vBurst.toList = [49, 48, 48, 48] := by rw [ByteArray.toList_eq]; rfl
  have c3 : strS.toList = [78, 111, 116, 85, 110, 100, 101, 114, 115, 116, 111, 111, 100] := by rw [ByteArray.toList_eq]; rfl
  go_enter Tryd.func13, Tryd.ntmps13
  go_wp2_with (first
    | (go_at_call 15; refine (xdefault_any _).mono ?_; rintro _ W0 ⟨rfl, hb0⟩; have HB0 := Lib.hid hb0; clear hb0)
    | (go_at_call 17; refine (HT.out _ W0 HB0.out (blk_new W0 _) (box_below W0 _)).mono ?_; rintro _ W1 ⟨v, rfl, hp, hb⟩; obtain ⟨vb, vo, vc, rfl, hn1, hc1, -, hab, hcell⟩ := RowAt.form hp (by decide); have m1 := hcell 1 (.string vCrc) rfl; have m3 := hcell 3 (.string vBurst) rfl; have m5 := hcell 5 (.string strS) rfl; have n1 := fun o => cell_keep (box_below W1 o) m1; have n3 := fun o => cell_keep (box_below W1 o) m3; have n5 := fun o => cell_keep (box_below W1 o) m5; have HB := Lib.hid (below_then HB0.out (below_then (box_below W0 _) hb)); have HA := Lib.hid (And.intro hn1 hc1); clear hp hb hcell hn1 hc1 hab; simp only [fixPar_v]))
  go_ret
  exact ⟨rfl, below_then HB.out (box_below W1 _)⟩
end Go.Proofs.YtmehjcimohhopaaDoor

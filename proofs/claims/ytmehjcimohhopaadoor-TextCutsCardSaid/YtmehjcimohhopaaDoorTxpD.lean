/- Pairs as bytes: the program's, walked. No statement is proved here. -/
import Derived.Test.YtmehjcimohhopaaDoorTxpC
import Derived.Test.YtmehjcimohhopaaDoorTxpSh
import Derived.Test.YtmehjcimohhopaaDoorTxtU
import Derived.Lib.BufferOld
namespace Go.Proofs.YtmehjcimohhopaaDoor
open Go.RowKit

theorem lineL_len {p : Pr} (h : pairOK p = true) : (lineL p).length ≤ 319 := by
  unfold pairOK keyOK valOK at h
  simp only [Bool.and_eq_true, decide_eq_true_eq] at h
  have h1 : p.1.data.toList.length = p.1.size := by simp
  have h2 : p.2.data.toList.length = p.2.size := by simp
  unfold lineL
  rw [List.length_append, List.length_cons]
  omega
theorem pair_sizes {k v : ByteArray} (h : pairOK (k, v) = true) : k.size ≤ 63 ∧ v.size ≤ 255 := by
  unfold pairOK keyOK valOK at h
  simp only [Bool.and_eq_true, decide_eq_true_eq] at h
  omega
theorem bytesL_len : ∀ l : List Pr, l.all pairOK = true → (bytesL l).length ≤ 320 * l.length
  | [], _ => by simp [bytesL]
  | p :: l, h => by
    rw [List.all_cons, Bool.and_eq_true] at h
    have h1 := lineL_len h.1
    have h2 := bytesL_len l h.2
    have e : bytesL (p :: l) = lineL p ++ [0] ++ bytesL l := rfl
    rw [e]
    simp only [List.length_append, List.length_cons, List.length_nil]
    omega
theorem bytesL_take (l : List Pr) (j : Nat) (h : j < l.length) : bytesL (l.take (j + 1)) = bytesL (l.take j) ++ (lineL l[j] ++ [0]) := by
  unfold bytesL
  rw [List.take_succ_eq_append_getElem h, List.flatMap_append, List.flatMap_cons, List.flatMap_nil, List.append_nil]
theorem all_takeP {l : List Pr} {j : Nat} (h : j < l.length) (ha : (l.take j).all pairOK = true) (hp : pairOK l[j] = true) : (l.take (j + 1)).all pairOK = true := by
  rw [List.take_succ_eq_append_getElem h, List.all_append, ha]
  simp [hp]
theorem all_noP {l : List Pr} {j : Nat} (h : j < l.length) (hp : pairOK l[j] = false) : l.all pairOK = false := by
  rw [← List.take_append_drop j l, List.all_append, List.drop_eq_getElem_cons h, List.all_cons, hp]
  simp
theorem putP_bad {l : List Pr} (h : l.length ≤ 64) (ha : l.all pairOK = false) : putP l = ([], 1) := by
  unfold putP
  rw [if_neg (by omega), ha]
  rfl
theorem putP_good {l : List Pr} (h : l.length ≤ 64) (ha : l.all pairOK = true) : putP l = (bytesL l, 0) := by
  unfold putP
  rw [if_neg (by omega), if_pos ha]
theorem putP_long {l : List Pr} (h : 64 < l.length) : putP l = ([], 3) := by
  unfold putP
  rw [if_pos h]
theorem bytes_none {S : Nat → Prop} (w : World) : Bytes S w (.slice none 0 0) [] := ⟨rfl, .inl ⟨rfl, .inl rfl⟩⟩
/-- Pairs are put as bytes: what it comes to. -/
def PutTo (w : World) (r : List UInt8 × Int) (e : Ending) (w' : World) : Prop :=
  ∃ v, e = .returned (.tuple #[v, .int .i64 r.2]) ∧ Bytes (w.heap.size ≤ ·) w' v r.1 ∧ Below w.heap.size w w'
def lineB (p : Pr) : ByteArray := ⟨(lineL p ++ [0]).toArray⟩
set_option maxRecDepth 100000 in
set_option maxHeartbeats 1000000 in
theorem xput_any {S : Nat → Prop} (va : Value) (l : List Pr) (w : World) (hl : PairsAt S w va l) : Calls Tryd.prog 23 #[va] w (PutTo w (putP l)) := by
  obtain ⟨A, cA, rfl⟩ := RowAt.slice hl
  have hmax := RowAt.le hl
  unfold maxLen at hmax
  have Hl := Lib.hid hl
  clear hl
  by_cases h64 : 64 < l.length
  · have h64' : (64 : Int) < l.length := by omega
    have HP := Lib.hid (putP_long h64)
    clear h64
    go_enter Tryd.func23, Tryd.ntmps23
    go_wp2_with fail
    go_ret2
    rw [HP.out]
    exact ⟨_, rfl, bytes_none _, Below.refl _ _⟩
  · have h64' : ¬ (64 : Int) < l.length := by omega
    have hbf := Lib.fresh_isBuffer 73 5 w
    have hbx := box_below w (.cells #[.slice none 0 0, .int .i64 0, .int .i8 0] 73)
    have HB0 := Lib.hid (And.intro hbf hbx)
    clear hbf hbx
    go_enter Tryd.func23, Tryd.ntmps23
    go_wp2_with fail
    go_loopw [12] (fun i wr => ∃ j : Nat, j ≤ l.length ∧ i = .int .i64 j ∧ Hid (Lib.IsBuffer 73 5 w.heap.size w.heap.size (byteCells (bytesL (l.take j))) wr ∧ Below w.heap.size w wr ∧ (l.take j).all pairOK = true)) (fun i _ => l.length - (intOf i).toNat)
    case atStart => exact ⟨0, Nat.zero_le _, rfl, Lib.hid ⟨HB0.out.1, HB0.out.2, rfl⟩⟩
    case round =>
      obtain ⟨j, hj, rfl, HJ⟩ := hrel
      by_cases hlt : j < l.length
      · have hlt3 : (j : Int) < l.length := by omega
        obtain ⟨b1, b2, b3, hv1, hn1, hc1, -, hab1, hcell1⟩ := RowAt.form Hl.out (by omega)
        injection hv1 with hv1 _ hv3
        subst hv1 hv3
        obtain ⟨p0, p1⟩ := pairCells_at l j hlt
        have x0 := cell_keep HJ.out.2.1 (hcell1 _ _ p0)
        have x1 := cell_keep HJ.out.2.1 (hcell1 _ _ p1)
        rw [← Nat.add_assoc] at x1
        have hat := all_takeP hlt HJ.out.2.2
        have han := all_noP (l := l) hlt
        have hbt := bytesL_take l j hlt
        obtain ⟨⟨kk, vv⟩, hkv⟩ : ∃ p, l[j] = p := ⟨_, rfl⟩
        rw [hkv] at x0 x1 hat han hbt
        have hR := fun W => xright_any (kk, vv) W
        have hll := lineL_len (p := (kk, vv))
        have hps := pair_sizes (k := kk) (v := vv)
        obtain ⟨q, hq⟩ : ∃ q, pairOK (kk, vv) = q := ⟨_, rfl⟩
        rw [hq] at hat han hR hll hps
        have HR := Lib.hid hR
        have HAT := Lib.hid hat
        have HAN := Lib.hid han
        have HBT := Lib.hid hbt
        have HLL := Lib.hid hll
        have HPS := Lib.hid hps
        have hnb := blk_new wr (.cells #[.string kk, .string vv] 46)
        have HX := Lib.hid hnb
        have hj64 : (j : Int) ≤ 64 := by omega
        clear hcell1 p0 p1 hkv hR hat han hbt hll hps hn1 hab1 hnb hq
        cases q with
        | false =>
          have HN := Lib.hid (HAN.out rfl)
          clear HAN HAT HLL HPS
          go_wp2_with (go_at_call 37; refine (HR.out _).mono ?_; rintro _ W1 ⟨rfl, hb1⟩; have HB := Lib.hid hb1; clear hb1)
          go_ret2
          rw [putP_bad (by omega) HN.out]
          exact ⟨_, rfl, bytes_none _, below_then (below_then HJ.out.2.1 (box_below _ _)) HB.out⟩
        | true =>
          have HT := Lib.hid (HAT.out rfl)
          have hL := Lib.hid (HLL.out rfl)
          obtain ⟨hk63, hv255⟩ := HPS.out rfl
          have HL2 := Lib.hid (bytesL_len _ HJ.out.2.2)
          have hws : ∀ (W : World) (s : ByteArray), Lib.IsBuffer 73 5 w.heap.size w.heap.size (byteCells (bytesL (l.take j))) W → w.heap.size ≤ W.heap.size → s.data.toList = lineL (kk, vv) ++ [0] →
              Calls Tryd.prog 38 #[.pointer (some ⟨w.heap.size, 0, none⟩), .string s] W fun e w' => e = .returned (.tuple #[.int .i64 s.size, .nilIface]) ∧ Lib.IsBuffer 73 5 w.heap.size w.heap.size (byteCells (bytesL (l.take (j + 1)))) w' ∧ Below w.heap.size W w' := by
            intro W s hI hW hs
            have hsz : s.size = (lineL (kk, vv)).length + 1 := by rw [show s.size = s.data.toList.length by simp, hs]; simp
            refine (Tryd.Buffer_WriteString_kept _ _ _ s W hI hW (byteCells_one _) ?_).mono ?_
            · rw [byteCells_length]
              have h1 := hL.out
              have h2 := HL2.out
              have h3 : (l.take j).length ≤ j := List.length_take_le _ _
              omega
            · rintro e w' ⟨he, hi, hb, -⟩
              refine ⟨he, ?_, hb⟩
              rw [HBT.out, byteCells_append, ← hs]
              exact hi
          have HWS := Lib.hid hws
          clear HAN HAT HLL HPS hws
          go_wp2_with (first
            | (go_at_call 37; refine (HR.out _).mono ?_; rintro _ W1 ⟨rfl, hb1⟩; obtain ⟨c0, c1, -, -⟩ := cells2 (blk_keep hb1 HX.out); have HB := Lib.hid (below_then (box_below wr _) hb1); clear hb1)
            | (go_at_call 38; refine (HWS.out _ _ (HJ.out.1.old HB.out) (by have := HB.out.size; have := HJ.out.2.1.size; omega) (by simp [lineL])).mono ?_; rintro _ W2 ⟨rfl, hi2, hb2⟩; have H2 := Lib.hid (And.intro hi2 hb2); clear hi2 hb2))
          go_roundw
          case rel => exact ⟨j + 1, hlt, by go_num, Lib.hid ⟨H2.out.1, (below_then HJ.out.2.1 HB.out).trans H2.out.2, HT.out⟩⟩
          case measure => simp [intOf]; omega
      · obtain rfl : j = l.length := by omega
        have HP := Lib.hid (putP_good (l := l) (by omega) (by have := HJ.out.2.2; rwa [List.take_length] at this))
        have hbuf := HJ.out.1
        rw [List.take_length] at hbuf
        have HBuf := Lib.hid hbuf
        clear hbuf
        go_wp2_with (go_at_call 39; refine (Tryd.Buffer_Bytes _ _ _ _ HBuf.out).mono ?_; rintro _ W3 ⟨v3, rfl, ho3, n3, rfl⟩; have H3 := Lib.hid ho3; clear ho3)
        go_ret2
        rw [HP.out]
        refine ⟨_, rfl, ?_, below_drewN HJ.out.2.1 _⟩
        have h := RowAt.of_own H3.out
        rw [byteCells_length] at h
        exact h
end Go.Proofs.YtmehjcimohhopaaDoor

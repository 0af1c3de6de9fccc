/- The reference's answer to any pair. No statement is proved here. -/
import Derived.Test.YtmehjcimohhopaaDoorTxrC
namespace Go.Proofs.YtmehjcimohhopaaDoor
open Go.RowKit

/-- What comes of a pair; the parameters' block b holds what is agreed on then. -/
def OneTo (w : World) (b : Nat) (r : Par × Ans) (e : Ending) (w' : World) : Prop :=
  e = .returned (.tuple #[.string r.2.val, .bool r.2.told, .bool r.2.ok]) ∧ w.grownBy w' (some b) ∧ w'.heap[b]? = some (.cells (parCells r.1) 29 (0, 0))
set_option maxRecDepth 100000 in
theorem one_num (P : Par) (b : Nat) (k v : ByteArray) (lo hi : Int) (w : World) (hb : w.heap[b]? = some (.cells (parCells P) 29 (0, 0))) (hs : v.size ≤ 9223372036854775807)
    (hB : ∀ W, Calls Tryd.prog 62 #[.string k] W (BdTo lo hi true W)) (F : Int → Par × Ans)
    (hF : ∀ n, lo ≤ n → n ≤ hi → (F n).2.ok = true ∧ ∀ W, W.heap[b]? = some (.cells (parCells P) 29 (0, 0)) → Calls Tryd.prog 63 #[.pointer (some ⟨b, 0, none⟩), .string k, .int .i64 n] W (NbTo W b (F n).1 (F n).2.val (F n).2.told)) :
    Calls Tryd.prog 35 #[.pointer (some ⟨b, 0, none⟩), .string k, .string v] w (OneTo w b (numA P v lo hi F)) := by
  have HY := Lib.hid (fun W => ynumber_any v hs W)
  have HB := Lib.hid hB
  have HF := Lib.hid hF
  have HP := Lib.hid hb
  unfold numA
  obtain ⟨⟨N, E⟩, hNE⟩ : ∃ p, numP v.data.toList = p := ⟨_, rfl⟩
  rw [hNE] at HY ⊢
  clear hB hF hb hs hNE
  by_cases h : E = 0 ∧ lo ≤ N ∧ N ≤ hi
  · rw [if_pos h]
    obtain ⟨rfl, h1, h2⟩ := h
    obtain ⟨hok, hC⟩ := HF.out N h1 h2
    have HC := Lib.hid hC
    obtain ⟨⟨Q, ⟨av, at_, ao⟩⟩, hQ⟩ : ∃ r, F N = r := ⟨_, rfl⟩
    simp only at HC ⊢
    rw [hQ] at HC hok ⊢
    obtain rfl : ao = true := hok
    clear hC hQ HF
    go_enter Tryd.func35, Tryd.ntmps35
    go_wp2_with (first
      | (go_at_call 62; refine (HB.out _).mono ?_; rintro _ w1 ⟨rfl, rfl⟩)
      | (go_at_call 10; refine (HY.out _).mono ?_; rintro _ w2 ⟨rfl, rfl⟩)
      | (go_at_call 63; refine (HC.out _ HP.out).mono ?_; rintro _ w3 ⟨rfl, hg, hh⟩; have HG := Lib.hid (And.intro hg hh); clear hg hh))
    go_ret3
    exact ⟨rfl, HG.out⟩
  · rw [if_neg h]
    clear HF
    by_cases he : E = 0
    · obtain rfl := he
      by_cases h1 : N < lo
      · clear h
        go_enter Tryd.func35, Tryd.ntmps35
        go_wp2_with (first
          | (go_at_call 62; refine (HB.out _).mono ?_; rintro _ w1 ⟨rfl, rfl⟩)
          | (go_at_call 10; refine (HY.out _).mono ?_; rintro _ w2 ⟨rfl, rfl⟩))
        go_ret3
        exact ⟨rfl, grown_refl _ _, HP.out⟩
      · have h2 : hi < N := by
          by_cases h2 : hi < N
          · exact h2
          · exact absurd ⟨rfl, by omega, by omega⟩ h
        clear h
        go_enter Tryd.func35, Tryd.ntmps35
        go_wp2_with (first
          | (go_at_call 62; refine (HB.out _).mono ?_; rintro _ w1 ⟨rfl, rfl⟩)
          | (go_at_call 10; refine (HY.out _).mono ?_; rintro _ w2 ⟨rfl, rfl⟩))
        go_ret3
        exact ⟨rfl, grown_refl _ _, HP.out⟩
    · clear h
      go_enter Tryd.func35, Tryd.ntmps35
      go_wp2_with (first
        | (go_at_call 62; refine (HB.out _).mono ?_; rintro _ w1 ⟨rfl, rfl⟩)
        | (go_at_call 10; refine (HY.out _).mono ?_; rintro _ w2 ⟨rfl, rfl⟩))
      go_ret3
      exact ⟨rfl, grown_refl _ _, HP.out⟩
set_option maxRecDepth 100000 in
theorem one_flag (P : Par) (b : Nat) (k v : ByteArray) (w : World) (hb : w.heap[b]? = some (.cells (parCells P) 29 (0, 0))) (hB : ∀ W, Calls Tryd.prog 62 #[.string k] W (BdTo 0 0 false W)) (g0 : (k.toList == [73, 110, 105, 116, 105, 97, 116, 111, 114, 78, 97, 109, 101]) = false) (g1 : (k.toList == [84, 97, 114, 103, 101, 116, 78, 97, 109, 101]) = false) (g2 : (k.toList == [83, 101, 115, 115, 105, 111, 110, 84, 121, 112, 101]) = false) (g3 : (k.toList == [73, 110, 105, 116, 105, 97, 116, 111, 114, 65, 108, 105, 97, 115]) = false) (g4 : (k.toList == [65, 117, 116, 104, 77, 101, 116, 104, 111, 100]) = false) (g5 : (k.toList == [72, 101, 97, 100, 101, 114, 68, 105, 103, 101, 115, 116]) = false) (g6 : (k.toList == [68, 97, 116, 97, 68, 105, 103, 101, 115, 116]) = false)
    (G : Par → Bool → Par) (s : Par → Bool → ByteArray) (hne : (s zeroPar true).toList.isEmpty = false)
    (hF : ∀ (R : Par) (c : Nat) (x : Bool) (W : World), W.heap[c]? = some (.cells (parCells R) 29 (0, 0)) → Calls Tryd.prog 66 #[.pointer (some ⟨c, 0, none⟩), .string k, .bool x] W (FlTo W c (G R x) (s R x))) :
    Calls Tryd.prog 35 #[.pointer (some ⟨b, 0, none⟩), .string k, .string v] w (OneTo w b (swA P v fun x => (G P x, ⟨s P x, true, true⟩))) := by
  have HB := Lib.hid hB
  have HP := Lib.hid hb
  have hbl : b < w.heap.size := (Array.getElem?_eq_some_iff.1 hb).1
  have hz := hF zeroPar w.heap.size true (w.alloc (.cells (parCells zeroPar) 29)) (blk_new _ _)
  have HZ : Hid (Calls Tryd.prog 66 #[.pointer (some ⟨w.heap.size, 0, none⟩), .string k, .bool true] (w.alloc (.cells #[.bool false, .bool false, .int .i64 0, .int .i64 0, .int .i64 0, .int .i64 0, .bool false, .bool false, .bool false, .string ⟨#[]⟩, .string ⟨#[]⟩] 29)) fun e w' => e = .returned (.string (s zeroPar true)) ∧ w'.heap[b]? = some (.cells (parCells P) 29 (0, 0)) ∧ w.grownBy w' (some b)) := Lib.hid (hz.mono (by
    rintro e w' ⟨rfl, hg, -⟩
    refine ⟨rfl, grown_blk hg (by intro h; injection h with h; omega) (blk_alloc hb _), hg.os, hg.tape, hg.output, ?_, fun i hi hne => ?_⟩
    · have := hg.size; simp at this; omega
    · have h1 := hg.block i (by simp; omega) (by intro h; injection h with h; omega)
      exact h1.trans ((box_below w _).block i hi)))
  have HF := Lib.hid (hF P b)
  obtain ⟨t, ht⟩ : ∃ t, s zeroPar true = t := ⟨_, rfl⟩
  rw [ht] at HZ hne
  have hne2 : ¬ (t.toList = []) := by intro h; rw [h] at hne; cases hne
  have hne3 : (t.toList == []) = false := by simpa using hne2
  clear hB hb hF hz ht
  unfold swA
  by_cases h1 : v.toList = [89, 101, 115]
  · rw [if_pos h1]
    have e1 : (v.toList == [89, 101, 115]) = true := by simpa using h1
    clear h1
    go_enter Tryd.func35, Tryd.ntmps35
    go_wp2_with (first
      | (go_at_call 62; refine (HB.out _).mono ?_; rintro _ w1 ⟨rfl, rfl⟩)
      | (go_at_call_of 66 (Value.pointer (some ⟨w.heap.size, 0, none⟩)); refine HZ.out.mono ?_; rintro _ w2 ⟨rfl, hb2, hg2⟩; have H2 := Lib.hid (And.intro hb2 hg2); clear hb2 hg2)
      | (go_at_call_of 66 (Value.pointer (some ⟨b, 0, none⟩)); refine (HF.out true _ H2.out.1).mono ?_; rintro _ w3 ⟨rfl, hg3, hb3⟩; have H3 := Lib.hid (And.intro (grown_trans H2.out.2 hg3) hb3); clear hg3 hb3))
    go_ret3
    exact ⟨rfl, H3.out⟩
  · rw [if_neg h1]
    have e1 : (v.toList == [89, 101, 115]) = false := by simpa using h1
    by_cases h2 : v.toList = [78, 111]
    · rw [if_pos h2]
      have e2 : (v.toList == [78, 111]) = true := by simpa using h2
      clear h1 h2
      go_enter Tryd.func35, Tryd.ntmps35
      go_wp2_with (first
        | (go_at_call 62; refine (HB.out _).mono ?_; rintro _ w1 ⟨rfl, rfl⟩)
        | (go_at_call_of 66 (Value.pointer (some ⟨w.heap.size, 0, none⟩)); refine HZ.out.mono ?_; rintro _ w2 ⟨rfl, hb2, hg2⟩; have H2 := Lib.hid (And.intro hb2 hg2); clear hb2 hg2)
        | (go_at_call_of 66 (Value.pointer (some ⟨b, 0, none⟩)); refine (HF.out false _ H2.out.1).mono ?_; rintro _ w3 ⟨rfl, hg3, hb3⟩; have H3 := Lib.hid (And.intro (grown_trans H2.out.2 hg3) hb3); clear hg3 hb3))
      go_ret3
      exact ⟨rfl, H3.out⟩
    · rw [if_neg h2]
      have e2 : (v.toList == [78, 111]) = false := by simpa using h2
      clear h1 h2
      go_enter Tryd.func35, Tryd.ntmps35
      go_wp2_with (first
        | (go_at_call 62; refine (HB.out _).mono ?_; rintro _ w1 ⟨rfl, rfl⟩)
        | (go_at_call_of 66 (Value.pointer (some ⟨w.heap.size, 0, none⟩)); refine HZ.out.mono ?_; rintro _ w2 ⟨rfl, hb2, hg2⟩; have H2 := Lib.hid (And.intro hb2 hg2); clear hb2 hg2))
      go_ret3
      exact ⟨rfl, H2.out.2, H2.out.1⟩
set_option maxRecDepth 100000 in
theorem one_else (P : Par) (b : Nat) (k v : ByteArray) (w : World) (hb : w.heap[b]? = some (.cells (parCells P) 29 (0, 0))) (hB : ∀ W, Calls Tryd.prog 62 #[.string k] W (BdTo 0 0 false W)) (g0 : (k.toList == [73, 110, 105, 116, 105, 97, 116, 111, 114, 78, 97, 109, 101]) = false) (g1 : (k.toList == [84, 97, 114, 103, 101, 116, 78, 97, 109, 101]) = false) (g2 : (k.toList == [83, 101, 115, 115, 105, 111, 110, 84, 121, 112, 101]) = false) (g3 : (k.toList == [73, 110, 105, 116, 105, 97, 116, 111, 114, 65, 108, 105, 97, 115]) = false) (g4 : (k.toList == [65, 117, 116, 104, 77, 101, 116, 104, 111, 100]) = false) (g5 : (k.toList == [72, 101, 97, 100, 101, 114, 68, 105, 103, 101, 115, 116]) = false) (g6 : (k.toList == [68, 97, 116, 97, 68, 105, 103, 101, 115, 116]) = false)
    (hF : ∀ (R : Par) (c : Nat) (x : Bool) (W : World), W.heap[c]? = some (.cells (parCells R) 29 (0, 0)) → Calls Tryd.prog 66 #[.pointer (some ⟨c, 0, none⟩), .string k, .bool x] W (FlTo W c R ⟨#[]⟩)) :
    Calls Tryd.prog 35 #[.pointer (some ⟨b, 0, none⟩), .string k, .string v] w (OneTo w b (P, ⟨strS, true, true⟩)) := by
  have HB := Lib.hid hB
  have HP := Lib.hid hb
  have hbl : b < w.heap.size := (Array.getElem?_eq_some_iff.1 hb).1
  have hz := hF zeroPar w.heap.size true (w.alloc (.cells (parCells zeroPar) 29)) (blk_new _ _)
  have HZ : Hid (Calls Tryd.prog 66 #[.pointer (some ⟨w.heap.size, 0, none⟩), .string k, .bool true] (w.alloc (.cells #[.bool false, .bool false, .int .i64 0, .int .i64 0, .int .i64 0, .int .i64 0, .bool false, .bool false, .bool false, .string ⟨#[]⟩, .string ⟨#[]⟩] 29)) fun e w' => e = .returned (.string ⟨#[]⟩) ∧ w'.heap[b]? = some (.cells (parCells P) 29 (0, 0)) ∧ w.grownBy w' (some b)) := Lib.hid (hz.mono (by
    rintro e w' ⟨rfl, hg, -⟩
    refine ⟨rfl, grown_blk hg (by intro h; injection h with h; omega) (blk_alloc hb _), hg.os, hg.tape, hg.output, ?_, fun i hi hne => ?_⟩
    · have := hg.size; simp at this; omega
    · have h1 := hg.block i (by simp; omega) (by intro h; injection h with h; omega)
      exact h1.trans ((box_below w _).block i hi)))
  clear hB hb hF hz
  go_enter Tryd.func35, Tryd.ntmps35
  go_wp2_with (first
    | (go_at_call 62; refine (HB.out _).mono ?_; rintro _ w1 ⟨rfl, rfl⟩)
    | (go_at_call_of 66 (Value.pointer (some ⟨w.heap.size, 0, none⟩)); refine HZ.out.mono ?_; rintro _ w2 ⟨rfl, hb2, hg2⟩; have H2 := Lib.hid (And.intro hb2 hg2); clear hb2 hg2))
  go_ret3
  exact ⟨rfl, H2.out.2, H2.out.1⟩

set_option maxRecDepth 100000 in
theorem one_ini (P : Par) (b : Nat) (k v : ByteArray) (w : World) (hb : w.heap[b]? = some (.cells (parCells P) 29 (0, 0))) (hk : k.toList = [73, 110, 105, 116, 105, 97, 116, 111, 114, 78, 97, 109, 101]) :
    Calls Tryd.prog 35 #[.pointer (some ⟨b, 0, none⟩), .string k, .string v] w (OneTo w b ({ P with ini := v }, ⟨⟨#[]⟩, false, !(v.toList == [])⟩)) := by
  have HB : Hid (∀ W, Calls Tryd.prog 62 #[.string k] W (BdTo 0 0 false W)) := Lib.hid (fun W => bdE k W (by rw [hk]; rfl) (by rw [hk]; rfl) (by rw [hk]; rfl) (by rw [hk]; rfl) (by rw [hk]; rfl) (by rw [hk]; rfl) (by rw [hk]; rfl) (by rw [hk]; rfl))
  obtain ⟨c, f⟩ := cell_of hb (k := 9) (v := .string P.ini) rfl
  have hp : (w.setCell ⟨b, 9, none⟩ (.string v)).heap[b]? = some (.cells (parCells { P with ini := v }) 29 (0, 0)) := blk_set hb 9 (.string v)
  have HP := Lib.hid hp
  clear hb hp
  obtain ⟨q, hq⟩ : ∃ q, (v.toList == []) = q := ⟨_, rfl⟩
  rw [hq]
  go_enter Tryd.func35, Tryd.ntmps35
  go_wp2_with (go_at_call 62; refine (HB.out _).mono ?_; rintro _ w1 ⟨rfl, rfl⟩)
  go_ret3
  exact ⟨rfl, grown_one _ _, HP.out⟩
set_option maxRecDepth 100000 in
theorem one_tgt (P : Par) (b : Nat) (k v : ByteArray) (w : World) (hb : w.heap[b]? = some (.cells (parCells P) 29 (0, 0))) (hk : k.toList = [84, 97, 114, 103, 101, 116, 78, 97, 109, 101]) :
    Calls Tryd.prog 35 #[.pointer (some ⟨b, 0, none⟩), .string k, .string v] w (OneTo w b ({ P with tgt := v }, ⟨⟨#[]⟩, false, !(v.toList == [])⟩)) := by
  have HB : Hid (∀ W, Calls Tryd.prog 62 #[.string k] W (BdTo 0 0 false W)) := Lib.hid (fun W => bdE k W (by rw [hk]; rfl) (by rw [hk]; rfl) (by rw [hk]; rfl) (by rw [hk]; rfl) (by rw [hk]; rfl) (by rw [hk]; rfl) (by rw [hk]; rfl) (by rw [hk]; rfl))
  obtain ⟨c, f⟩ := cell_of hb (k := 10) (v := .string P.tgt) rfl
  have hp : (w.setCell ⟨b, 10, none⟩ (.string v)).heap[b]? = some (.cells (parCells { P with tgt := v }) 29 (0, 0)) := blk_set hb 10 (.string v)
  have HP := Lib.hid hp
  clear hb hp
  obtain ⟨q, hq⟩ : ∃ q, (v.toList == []) = q := ⟨_, rfl⟩
  rw [hq]
  go_enter Tryd.func35, Tryd.ntmps35
  go_wp2_with (go_at_call 62; refine (HB.out _).mono ?_; rintro _ w1 ⟨rfl, rfl⟩)
  go_ret3
  exact ⟨rfl, grown_one _ _, HP.out⟩
set_option maxRecDepth 100000 in
theorem one_session (P : Par) (b : Nat) (k v : ByteArray) (w : World) (hb : w.heap[b]? = some (.cells (parCells P) 29 (0, 0))) (hk : k.toList = [83, 101, 115, 115, 105, 111, 110, 84, 121, 112, 101]) :
    Calls Tryd.prog 35 #[.pointer (some ⟨b, 0, none⟩), .string k, .string v] w (OneTo w b ({ P with di := v.toList == [68, 105, 115, 99, 111, 118, 101, 114, 121] }, ⟨⟨#[]⟩, false, (v.toList == [68, 105, 115, 99, 111, 118, 101, 114, 121] || v.toList == [78, 111, 114, 109, 97, 108])⟩)) := by
  have HB : Hid (∀ W, Calls Tryd.prog 62 #[.string k] W (BdTo 0 0 false W)) := Lib.hid (fun W => bdE k W (by rw [hk]; rfl) (by rw [hk]; rfl) (by rw [hk]; rfl) (by rw [hk]; rfl) (by rw [hk]; rfl) (by rw [hk]; rfl) (by rw [hk]; rfl) (by rw [hk]; rfl))
  obtain ⟨c, f⟩ := cell_of hb (k := 8) (v := .bool P.di) rfl
  have hp : ∀ y, (w.setCell ⟨b, 8, none⟩ (.bool y)).heap[b]? = some (.cells (parCells { P with di := y }) 29 (0, 0)) := fun y => blk_set hb 8 (.bool y)
  have HP := Lib.hid hp
  clear hb hp
  by_cases hd : v.toList = [68, 105, 115, 99, 111, 118, 101, 114, 121]
  · have hd2 : (v.toList == [68, 105, 115, 99, 111, 118, 101, 114, 121]) = true := by simpa using hd
    rw [hd2]
    go_enter Tryd.func35, Tryd.ntmps35
    go_wp2_with (go_at_call 62; refine (HB.out _).mono ?_; rintro _ w1 ⟨rfl, rfl⟩)
    go_ret3
    exact ⟨rfl, grown_one _ _, HP.out _⟩
  · have hd2 : (v.toList == [68, 105, 115, 99, 111, 118, 101, 114, 121]) = false := by simpa using hd
    rw [hd2]
    obtain ⟨q, hq⟩ : ∃ q, (v.toList == [78, 111, 114, 109, 97, 108]) = q := ⟨_, rfl⟩
    rw [hq]
    go_enter Tryd.func35, Tryd.ntmps35
    go_wp2_with (go_at_call 62; refine (HB.out _).mono ?_; rintro _ w1 ⟨rfl, rfl⟩)
    go_ret3
    exact ⟨rfl, grown_one _ _, HP.out _⟩
set_option maxRecDepth 100000 in
theorem one_alias (P : Par) (b : Nat) (k v : ByteArray) (w : World) (hb : w.heap[b]? = some (.cells (parCells P) 29 (0, 0))) (hk : k.toList = [73, 110, 105, 116, 105, 97, 116, 111, 114, 65, 108, 105, 97, 115]) :
    Calls Tryd.prog 35 #[.pointer (some ⟨b, 0, none⟩), .string k, .string v] w (OneTo w b (P, ⟨⟨#[]⟩, false, true⟩)) := by
  have HB : Hid (∀ W, Calls Tryd.prog 62 #[.string k] W (BdTo 0 0 false W)) := Lib.hid (fun W => bdE k W (by rw [hk]; rfl) (by rw [hk]; rfl) (by rw [hk]; rfl) (by rw [hk]; rfl) (by rw [hk]; rfl) (by rw [hk]; rfl) (by rw [hk]; rfl) (by rw [hk]; rfl))
  have HP := Lib.hid hb
  clear hb
  go_enter Tryd.func35, Tryd.ntmps35
  go_wp2_with (go_at_call 62; refine (HB.out _).mono ?_; rintro _ w1 ⟨rfl, rfl⟩)
  go_ret3
  exact ⟨rfl, grown_refl _ _, HP.out⟩
theorem any_none : ∀ (l : List ByteArray), (∀ x ∈ l, isNone x = false) → l.any isNone = false
  | [], _ => rfl
  | x :: l, h => by
    rw [List.any_cons, h x (by simp), any_none l (fun y hy => h y (by simp [hy]))]
    rfl
theorem auth_some {ws : List ByteArray} {j : Nat} (h : j < ws.length) (hn : isNone ws[j] = true) : authS ws = noneS := by
  unfold authS
  rw [if_pos (List.any_eq_true.2 ⟨_, List.getElem_mem h, hn⟩)]
theorem auth_no {ws : List ByteArray} (h : ∀ x ∈ ws, isNone x = false) : authS ws = rejS := by
  unfold authS
  rw [if_neg (by rw [any_none ws h]; decide)]
set_option maxRecDepth 100000 in
theorem one_auth (P : Par) (b : Nat) (k v : ByteArray) (w : World) (hb : w.heap[b]? = some (.cells (parCells P) 29 (0, 0))) (hs : v.size < 4294967281) (hk : k.toList = [65, 117, 116, 104, 77, 101, 116, 104, 111, 100]) :
    Calls Tryd.prog 35 #[.pointer (some ⟨b, 0, none⟩), .string k, .string v] w (OneTo w b (P, ⟨authS (wordsB v), true, true⟩)) := by
  have HB : Hid (∀ W, Calls Tryd.prog 62 #[.string k] W (BdTo 0 0 false W)) := Lib.hid (fun W => bdE k W (by rw [hk]; rfl) (by rw [hk]; rfl) (by rw [hk]; rfl) (by rw [hk]; rfl) (by rw [hk]; rfl) (by rw [hk]; rfl) (by rw [hk]; rfl) (by rw [hk]; rfl))
  have HP := Lib.hid hb
  have HW := Lib.hid (ywords_any v w hs)
  have hlen : ((wordsB v).length : Int) ≤ 4294967281 := by
    have h1 := wordsB_len v
    have h2 := Lib.countB_le comma (by decide) v.size v (Nat.le_refl _)
    omega
  obtain ⟨ws, hws⟩ : ∃ ws, wordsB v = ws := ⟨_, rfl⟩
  rw [hws] at HW hlen ⊢
  clear hs hws hb
  go_enter Tryd.func35, Tryd.ntmps35
  go_wp2_with (go_at_call 62; refine (HB.out _).mono ?_; rintro _ w1 ⟨rfl, rfl⟩)
  refine HW.out.mono ?_
  rintro _ W1 ⟨u, rfl, hrow, hb⟩
  obtain ⟨A, c, rfl⟩ := RowAt.slice hrow
  have HR := Lib.hid hrow
  have HBl := Lib.hid hb
  clear hrow hb HW
  go_wp2_with fail
  go_loopw [17] (fun i wr => ∃ j : Nat, j ≤ ws.length ∧ i = .int .i64 j ∧ Hid (∀ x ∈ ws.take j, isNone x = false) ∧ wr = W1) (fun i _ => ws.length - (intOf i).toNat)
  case atStart => exact ⟨0, Nat.zero_le _, rfl, Lib.hid (by simp), rfl⟩
  case round =>
    obtain ⟨j, hj, rfl, HJ, rfl⟩ := hrel
    by_cases hlt : j < ws.length
    · have hlt3 : (j : Int) < ws.length := by omega
      obtain ⟨b1, b2, b3, hv1, hn1, hc1, -, hab1, hcell1⟩ := RowAt.form HR.out (by omega)
      injection hv1 with hv1 _ hv3
      subst hv1 hv3
      have hx : (ws.map Value.string)[j * 1]? = some (.string ws[j]) := by simp [hlt]
      have x0 := hcell1 _ _ hx
      rw [Nat.mul_one] at x0
      have Hf := Lib.hid (auth_some (ws := ws) hlt)
      have Ht := Lib.hid (take_snocD hlt HJ.out)
      obtain ⟨x, hxj⟩ : ∃ x, ws[j] = x := ⟨_, rfl⟩
      rw [hxj] at x0 Hf Ht
      clear hx hxj hcell1 hn1 hab1
      by_cases hn : x.toList = [78, 111, 110, 101]
      · have hn2 : (x.toList == [78, 111, 110, 101]) = true := by simpa using hn
        have HD := Lib.hid (Hf.out hn2)
        clear hn
        go_wp2_with fail
        go_ret3
        rw [HD.out]
        exact ⟨rfl, grown_of_below HBl.out _, blk_keep HBl.out HP.out⟩
      · have hn2 : (x.toList == [78, 111, 110, 101]) = false := by simpa using hn
        have HT := Lib.hid (Ht.out hn2)
        clear hn
        go_wp2_with fail
        go_roundw
        case rel => exact ⟨j + 1, hlt, by go_num, HT, trivial⟩
        case measure => simp [intOf]; omega
    · obtain rfl : j = ws.length := by omega
      have HN := Lib.hid (auth_no (ws := ws) (by have := HJ.out; rwa [List.take_length] at this))
      go_wp2_with fail
      go_ret3
      rw [HN.out]
      exact ⟨rfl, grown_of_below HBl.out _, blk_keep HBl.out HP.out⟩
set_option maxRecDepth 100000 in
theorem one_head (P : Par) (b : Nat) (k v : ByteArray) (w : World) (hb : w.heap[b]? = some (.cells (parCells P) 29 (0, 0))) (hs : v.size < 4294967281) (hk : k.toList = [72, 101, 97, 100, 101, 114, 68, 105, 103, 101, 115, 116]) :
    Calls Tryd.prog 35 #[.pointer (some ⟨b, 0, none⟩), .string k, .string v] w (OneTo w b (digA P (wordsB v) fun x => { P with hs := x })) := by
  have HB : Hid (∀ W, Calls Tryd.prog 62 #[.string k] W (BdTo 0 0 false W)) := Lib.hid (fun W => bdE k W (by rw [hk]; rfl) (by rw [hk]; rfl) (by rw [hk]; rfl) (by rw [hk]; rfl) (by rw [hk]; rfl) (by rw [hk]; rfl) (by rw [hk]; rfl) (by rw [hk]; rfl))
  have HD := Lib.hid (ydigest_any v w hs)
  obtain ⟨ws, hws⟩ : ∃ ws, wordsB v = ws := ⟨_, rfl⟩
  rw [hws] at HD ⊢
  obtain ⟨s, hds⟩ : ∃ s, digS ws = s := ⟨_, rfl⟩
  rw [hds] at HD
  clear hs hws
  unfold digA
  unfold digS at hds
  cases hf : ws.find? isD with
  | none =>
    rw [hf] at hds
    obtain rfl : (⟨#[]⟩ : ByteArray) = s := hds
    have HP := Lib.hid hb
    clear hb hf
    go_enter Tryd.func35, Tryd.ntmps35
    go_wp2_with (first
      | (go_at_call 62; refine (HB.out _).mono ?_; rintro _ w1 ⟨rfl, rfl⟩)
      | (go_at_call 65; refine HD.out.mono ?_; rintro _ w2 ⟨rfl, hb2⟩; have H2 := Lib.hid hb2; clear hb2))
    go_ret3
    exact ⟨rfl, grown_of_below H2.out _, blk_keep H2.out HP.out⟩
  | some x =>
    rw [hf] at hds
    obtain rfl : x = s := hds
    have hx := List.find?_some hf
    rw [isD_eq, Bool.or_eq_true] at hx
    have HP := Lib.hid hb
    clear hb hf
    rcases hx with hx | hx
    · have hx' : x.toList = [78, 111, 110, 101] := by simpa using hx
      have e1 : isCrc x = false := by unfold isCrc; rw [hx']; rfl
      have e2 : (x.toList == [67, 82, 67, 51, 50, 67]) = false := e1
      have e3 : x.toList.isEmpty = false := by rw [hx']; rfl
      have e4 : (x.toList == []) = false := by rw [hx']; rfl
      show Calls Tryd.prog 35 _ w (OneTo w b ({ P with hs := isCrc x }, ⟨x, true, true⟩))
      rw [e1]
      clear hx hx'
      go_enter Tryd.func35, Tryd.ntmps35
      go_wp2_with (first
        | (go_at_call 62; refine (HB.out _).mono ?_; rintro _ w1 ⟨rfl, rfl⟩)
        | (go_at_call 65; refine HD.out.mono ?_; rintro _ w2 ⟨rfl, hb2⟩; obtain ⟨c, f⟩ := cell_of (blk_keep hb2 HP.out) (k := 0) (v := .bool P.hs) rfl; have H2 := Lib.hid hb2; clear hb2))
      go_ret3
      exact ⟨rfl, grown_set (grown_of_below H2.out _) _ _, blk_set (blk_keep H2.out HP.out) 0 (.bool false)⟩
    · have hx' : x.toList = [67, 82, 67, 51, 50, 67] := by simpa using hx
      have e1 : isCrc x = true := by unfold isCrc; rw [hx']; rfl
      have e2 : (x.toList == [67, 82, 67, 51, 50, 67]) = true := e1
      have e3 : x.toList.isEmpty = false := by rw [hx']; rfl
      have e4 : (x.toList == []) = false := by rw [hx']; rfl
      show Calls Tryd.prog 35 _ w (OneTo w b ({ P with hs := isCrc x }, ⟨x, true, true⟩))
      rw [e1]
      clear hx hx'
      go_enter Tryd.func35, Tryd.ntmps35
      go_wp2_with (first
        | (go_at_call 62; refine (HB.out _).mono ?_; rintro _ w1 ⟨rfl, rfl⟩)
        | (go_at_call 65; refine HD.out.mono ?_; rintro _ w2 ⟨rfl, hb2⟩; obtain ⟨c, f⟩ := cell_of (blk_keep hb2 HP.out) (k := 0) (v := .bool P.hs) rfl; have H2 := Lib.hid hb2; clear hb2))
      go_ret3
      exact ⟨rfl, grown_set (grown_of_below H2.out _) _ _, blk_set (blk_keep H2.out HP.out) 0 (.bool true)⟩
set_option maxRecDepth 100000 in
theorem one_data (P : Par) (b : Nat) (k v : ByteArray) (w : World) (hb : w.heap[b]? = some (.cells (parCells P) 29 (0, 0))) (hs : v.size < 4294967281) (hk : k.toList = [68, 97, 116, 97, 68, 105, 103, 101, 115, 116]) :
    Calls Tryd.prog 35 #[.pointer (some ⟨b, 0, none⟩), .string k, .string v] w (OneTo w b (digA P (wordsB v) fun x => { P with ds := x })) := by
  have HB : Hid (∀ W, Calls Tryd.prog 62 #[.string k] W (BdTo 0 0 false W)) := Lib.hid (fun W => bdE k W (by rw [hk]; rfl) (by rw [hk]; rfl) (by rw [hk]; rfl) (by rw [hk]; rfl) (by rw [hk]; rfl) (by rw [hk]; rfl) (by rw [hk]; rfl) (by rw [hk]; rfl))
  have HD := Lib.hid (ydigest_any v w hs)
  obtain ⟨ws, hws⟩ : ∃ ws, wordsB v = ws := ⟨_, rfl⟩
  rw [hws] at HD ⊢
  obtain ⟨s, hds⟩ : ∃ s, digS ws = s := ⟨_, rfl⟩
  rw [hds] at HD
  clear hs hws
  unfold digA
  unfold digS at hds
  cases hf : ws.find? isD with
  | none =>
    rw [hf] at hds
    obtain rfl : (⟨#[]⟩ : ByteArray) = s := hds
    have HP := Lib.hid hb
    clear hb hf
    go_enter Tryd.func35, Tryd.ntmps35
    go_wp2_with (first
      | (go_at_call 62; refine (HB.out _).mono ?_; rintro _ w1 ⟨rfl, rfl⟩)
      | (go_at_call 65; refine HD.out.mono ?_; rintro _ w2 ⟨rfl, hb2⟩; have H2 := Lib.hid hb2; clear hb2))
    go_ret3
    exact ⟨rfl, grown_of_below H2.out _, blk_keep H2.out HP.out⟩
  | some x =>
    rw [hf] at hds
    obtain rfl : x = s := hds
    have hx := List.find?_some hf
    rw [isD_eq, Bool.or_eq_true] at hx
    have HP := Lib.hid hb
    clear hb hf
    rcases hx with hx | hx
    · have hx' : x.toList = [78, 111, 110, 101] := by simpa using hx
      have e1 : isCrc x = false := by unfold isCrc; rw [hx']; rfl
      have e2 : (x.toList == [67, 82, 67, 51, 50, 67]) = false := e1
      have e3 : x.toList.isEmpty = false := by rw [hx']; rfl
      have e4 : (x.toList == []) = false := by rw [hx']; rfl
      show Calls Tryd.prog 35 _ w (OneTo w b ({ P with ds := isCrc x }, ⟨x, true, true⟩))
      rw [e1]
      clear hx hx'
      go_enter Tryd.func35, Tryd.ntmps35
      go_wp2_with (first
        | (go_at_call 62; refine (HB.out _).mono ?_; rintro _ w1 ⟨rfl, rfl⟩)
        | (go_at_call 65; refine HD.out.mono ?_; rintro _ w2 ⟨rfl, hb2⟩; obtain ⟨c, f⟩ := cell_of (blk_keep hb2 HP.out) (k := 1) (v := .bool P.ds) rfl; have H2 := Lib.hid hb2; clear hb2))
      go_ret3
      exact ⟨rfl, grown_set (grown_of_below H2.out _) _ _, blk_set (blk_keep H2.out HP.out) 1 (.bool false)⟩
    · have hx' : x.toList = [67, 82, 67, 51, 50, 67] := by simpa using hx
      have e1 : isCrc x = true := by unfold isCrc; rw [hx']; rfl
      have e2 : (x.toList == [67, 82, 67, 51, 50, 67]) = true := e1
      have e3 : x.toList.isEmpty = false := by rw [hx']; rfl
      have e4 : (x.toList == []) = false := by rw [hx']; rfl
      show Calls Tryd.prog 35 _ w (OneTo w b ({ P with ds := isCrc x }, ⟨x, true, true⟩))
      rw [e1]
      clear hx hx'
      go_enter Tryd.func35, Tryd.ntmps35
      go_wp2_with (first
        | (go_at_call 62; refine (HB.out _).mono ?_; rintro _ w1 ⟨rfl, rfl⟩)
        | (go_at_call 65; refine HD.out.mono ?_; rintro _ w2 ⟨rfl, hb2⟩; obtain ⟨c, f⟩ := cell_of (blk_keep hb2 HP.out) (k := 1) (v := .bool P.ds) rfl; have H2 := Lib.hid hb2; clear hb2))
      go_ret3
      exact ⟨rfl, grown_set (grown_of_below H2.out _) _ _, blk_set (blk_keep H2.out HP.out) 1 (.bool true)⟩
theorem flagS_ne (x : Bool) : (flagS x).toList.isEmpty = false := by rw [ByteArray.toList_eq]; cases x <;> rfl
theorem one_any (P : Par) (b : Nat) (k v : ByteArray) (w : World) (hb : w.heap[b]? = some (.cells (parCells P) 29 (0, 0))) (hs : v.size < 4294967281) (hin : in64 P.bu ∧ in64 P.fi) :
    Calls Tryd.prog 35 #[.pointer (some ⟨b, 0, none⟩), .string k, .string v] w (OneTo w b (ansP P k v)) := by
  have hs' : v.size ≤ 9223372036854775807 := by omega
  unfold ansP
  by_cases h0 : k.toList = [73, 110, 105, 116, 105, 97, 116, 111, 114, 78, 97, 109, 101]
  · rw [if_pos h0]
    exact one_ini P b k v w hb h0
  rw [if_neg h0]
  by_cases h1 : k.toList = [84, 97, 114, 103, 101, 116, 78, 97, 109, 101]
  · rw [if_pos h1]
    exact one_tgt P b k v w hb h1
  rw [if_neg h1]
  by_cases h2 : k.toList = [83, 101, 115, 115, 105, 111, 110, 84, 121, 112, 101]
  · rw [if_pos h2]
    exact one_session P b k v w hb h2
  rw [if_neg h2]
  by_cases h3 : k.toList = [73, 110, 105, 116, 105, 97, 116, 111, 114, 65, 108, 105, 97, 115]
  · rw [if_pos h3]
    exact one_alias P b k v w hb h3
  rw [if_neg h3]
  by_cases h4 : k.toList = [65, 117, 116, 104, 77, 101, 116, 104, 111, 100]
  · rw [if_pos h4]
    exact one_auth P b k v w hb hs h4
  rw [if_neg h4]
  by_cases h5 : k.toList = [72, 101, 97, 100, 101, 114, 68, 105, 103, 101, 115, 116]
  · rw [if_pos h5]
    exact one_head P b k v w hb hs h5
  rw [if_neg h5]
  by_cases h6 : k.toList = [68, 97, 116, 97, 68, 105, 103, 101, 115, 116]
  · rw [if_pos h6]
    exact one_data P b k v w hb hs h6
  rw [if_neg h6]
  by_cases h7 : k.toList = [77, 97, 120, 82, 101, 99, 118, 68, 97, 116, 97, 83, 101, 103, 109, 101, 110, 116, 76, 101, 110, 103, 116, 104]
  · rw [if_pos h7]
    refine one_num P b k v 512 16777215 w hb hs' (fun W => bd0 k W h7) _ (fun n h1 h2 => ⟨rfl, fun W hW => ?_⟩)
    exact nb0 P b k n W hW h7
  rw [if_neg h7]
  by_cases h8 : k.toList = [77, 97, 120, 66, 117, 114, 115, 116, 76, 101, 110, 103, 116, 104]
  · rw [if_pos h8]
    refine one_num P b k v 512 16777215 w hb hs' (fun W => bd1 k W h8) _ (fun n h1 h2 => ⟨rfl, fun W hW => ?_⟩)
    exact nb1 P b k n W hW h8 (by unfold in64; omega) hin.1
  rw [if_neg h8]
  by_cases h9 : k.toList = [70, 105, 114, 115, 116, 66, 117, 114, 115, 116, 76, 101, 110, 103, 116, 104]
  · rw [if_pos h9]
    refine one_num P b k v 512 16777215 w hb hs' (fun W => bd2 k W h9) _ (fun n h1 h2 => ⟨rfl, fun W hW => ?_⟩)
    exact nb2 P b k n W hW h9 (by unfold in64; omega) hin.2
  rw [if_neg h9]
  by_cases h10 : k.toList = [73, 110, 105, 116, 105, 97, 108, 82, 50, 84]
  · rw [if_pos h10]
    exact one_flag P b k v w hb (fun W => bdE k W (by rw [h10]; rfl) (by rw [h10]; rfl) (by rw [h10]; rfl) (by rw [h10]; rfl) (by rw [h10]; rfl) (by rw [h10]; rfl) (by rw [h10]; rfl) (by rw [h10]; rfl)) (by rw [h10]; rfl) (by rw [h10]; rfl) (by rw [h10]; rfl) (by rw [h10]; rfl) (by rw [h10]; rfl) (by rw [h10]; rfl) (by rw [h10]; rfl) (fun P x => { P with asked := P.asked || x }) (fun P x => flagS (P.asked || x)) (flagS_ne _) (fun R c x W hW => fl0 R c k x W hW h10)
  rw [if_neg h10]
  by_cases h11 : k.toList = [73, 109, 109, 101, 100, 105, 97, 116, 101, 68, 97, 116, 97]
  · rw [if_pos h11]
    exact one_flag P b k v w hb (fun W => bdE k W (by rw [h11]; rfl) (by rw [h11]; rfl) (by rw [h11]; rfl) (by rw [h11]; rfl) (by rw [h11]; rfl) (by rw [h11]; rfl) (by rw [h11]; rfl) (by rw [h11]; rfl)) (by rw [h11]; rfl) (by rw [h11]; rfl) (by rw [h11]; rfl) (by rw [h11]; rfl) (by rw [h11]; rfl) (by rw [h11]; rfl) (by rw [h11]; rfl) (fun P x => { P with im := P.im && x }) (fun P x => flagS (P.im && x)) (flagS_ne _) (fun R c x W hW => fl1 R c k x W hW h11)
  rw [if_neg h11]
  by_cases h12 : k.toList = [77, 97, 120, 67, 111, 110, 110, 101, 99, 116, 105, 111, 110, 115]
  · rw [if_pos h12]
    refine one_num P b k v 1 65535 w hb hs' (fun W => bd3 k W h12) _ (fun n h1 h2 => ⟨rfl, fun W hW => ?_⟩)
    exact nb3 P b k n W hW h12
  rw [if_neg h12]
  by_cases h13 : k.toList = [77, 97, 120, 79, 117, 116, 115, 116, 97, 110, 100, 105, 110, 103, 82, 50, 84]
  · rw [if_pos h13]
    refine one_num P b k v 1 65535 w hb hs' (fun W => bd4 k W h13) _ (fun n h1 h2 => ⟨rfl, fun W hW => ?_⟩)
    exact nb4 P b k n W hW h13
  rw [if_neg h13]
  by_cases h14 : k.toList = [69, 114, 114, 111, 114, 82, 101, 99, 111, 118, 101, 114, 121, 76, 101, 118, 101, 108]
  · rw [if_pos h14]
    refine one_num P b k v 0 2 w hb hs' (fun W => bd5 k W h14) _ (fun n h1 h2 => ⟨rfl, fun W hW => ?_⟩)
    exact nb5 P b k n W hW h14
  rw [if_neg h14]
  by_cases h15 : k.toList = [68, 101, 102, 97, 117, 108, 116, 84, 105, 109, 101, 50, 87, 97, 105, 116]
  · rw [if_pos h15]
    refine one_num P b k v 0 3600 w hb hs' (fun W => bd6 k W h15) _ (fun n h1 h2 => ⟨rfl, fun W hW => ?_⟩)
    exact nb6 P b k n W hW h15 (by unfold in64; omega)
  rw [if_neg h15]
  by_cases h16 : k.toList = [68, 101, 102, 97, 117, 108, 116, 84, 105, 109, 101, 50, 82, 101, 116, 97, 105, 110]
  · rw [if_pos h16]
    refine one_num P b k v 0 3600 w hb hs' (fun W => bd7 k W h16) _ (fun n h1 h2 => ⟨rfl, fun W hW => ?_⟩)
    exact nb7 P b k n W hW h16
  rw [if_neg h16]
  by_cases h17 : k.toList = [68, 97, 116, 97, 80, 68, 85, 73, 110, 79, 114, 100, 101, 114]
  · rw [if_pos h17]
    exact one_flag P b k v w hb (fun W => bdE k W (by rw [h17]; rfl) (by rw [h17]; rfl) (by rw [h17]; rfl) (by rw [h17]; rfl) (by rw [h17]; rfl) (by rw [h17]; rfl) (by rw [h17]; rfl) (by rw [h17]; rfl)) (by rw [h17]; rfl) (by rw [h17]; rfl) (by rw [h17]; rfl) (by rw [h17]; rfl) (by rw [h17]; rfl) (by rw [h17]; rfl) (by rw [h17]; rfl) (fun P _ => P) (fun _ _ => flagS true) (flagS_ne _) (fun R c x W hW => fl2 R c k x W hW h17)
  rw [if_neg h17]
  by_cases h18 : k.toList = [68, 97, 116, 97, 83, 101, 113, 117, 101, 110, 99, 101, 73, 110, 79, 114, 100, 101, 114]
  · rw [if_pos h18]
    exact one_flag P b k v w hb (fun W => bdE k W (by rw [h18]; rfl) (by rw [h18]; rfl) (by rw [h18]; rfl) (by rw [h18]; rfl) (by rw [h18]; rfl) (by rw [h18]; rfl) (by rw [h18]; rfl) (by rw [h18]; rfl)) (by rw [h18]; rfl) (by rw [h18]; rfl) (by rw [h18]; rfl) (by rw [h18]; rfl) (by rw [h18]; rfl) (by rw [h18]; rfl) (by rw [h18]; rfl) (fun P _ => P) (fun _ _ => flagS true) (flagS_ne _) (fun R c x W hW => fl3 R c k x W hW h18)
  rw [if_neg h18]
  by_cases h19 : k.toList = [73, 70, 77, 97, 114, 107, 101, 114]
  · rw [if_pos h19]
    exact one_flag P b k v w hb (fun W => bdE k W (by rw [h19]; rfl) (by rw [h19]; rfl) (by rw [h19]; rfl) (by rw [h19]; rfl) (by rw [h19]; rfl) (by rw [h19]; rfl) (by rw [h19]; rfl) (by rw [h19]; rfl)) (by rw [h19]; rfl) (by rw [h19]; rfl) (by rw [h19]; rfl) (by rw [h19]; rfl) (by rw [h19]; rfl) (by rw [h19]; rfl) (by rw [h19]; rfl) (fun P _ => P) (fun _ _ => flagS false) (flagS_ne _) (fun R c x W hW => fl4 R c k x W hW h19)
  rw [if_neg h19]
  by_cases h20 : k.toList = [79, 70, 77, 97, 114, 107, 101, 114]
  · rw [if_pos h20]
    exact one_flag P b k v w hb (fun W => bdE k W (by rw [h20]; rfl) (by rw [h20]; rfl) (by rw [h20]; rfl) (by rw [h20]; rfl) (by rw [h20]; rfl) (by rw [h20]; rfl) (by rw [h20]; rfl) (by rw [h20]; rfl)) (by rw [h20]; rfl) (by rw [h20]; rfl) (by rw [h20]; rfl) (by rw [h20]; rfl) (by rw [h20]; rfl) (by rw [h20]; rfl) (by rw [h20]; rfl) (fun P _ => P) (fun _ _ => flagS false) (flagS_ne _) (fun R c x W hW => fl5 R c k x W hW h20)
  rw [if_neg h20]
  exact one_else P b k v w hb (fun W => bdE k W (beq_eq_false_iff_ne.2 h7) (beq_eq_false_iff_ne.2 h8) (beq_eq_false_iff_ne.2 h9) (beq_eq_false_iff_ne.2 h12) (beq_eq_false_iff_ne.2 h13) (beq_eq_false_iff_ne.2 h14) (beq_eq_false_iff_ne.2 h15) (beq_eq_false_iff_ne.2 h16)) (beq_eq_false_iff_ne.2 h0) (beq_eq_false_iff_ne.2 h1) (beq_eq_false_iff_ne.2 h2) (beq_eq_false_iff_ne.2 h3) (beq_eq_false_iff_ne.2 h4) (beq_eq_false_iff_ne.2 h5) (beq_eq_false_iff_ne.2 h6) (fun R c x W hW => flE R c k x W hW (beq_eq_false_iff_ne.2 h10) (beq_eq_false_iff_ne.2 h11) (beq_eq_false_iff_ne.2 h17) (beq_eq_false_iff_ne.2 h18) (beq_eq_false_iff_ne.2 h19) (beq_eq_false_iff_ne.2 h20))
end Go.Proofs.YtmehjcimohhopaaDoor

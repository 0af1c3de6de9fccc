/- The reference's answers to numbers and to Yes and No, key by key. No statement is proved here. -/
import Derived.Test.YtmehjcimohhopaaDoorTxrB
namespace Go.Proofs.YtmehjcimohhopaaDoor
open Go.RowKit

/-- A key's bounds, told. -/
def BdTo (lo hi : Int) (is : Bool) (w : World) (e : Ending) (w' : World) : Prop := e = .returned (.tuple #[.int .i64 lo, .int .i64 hi, .bool is]) ∧ w = w'
/-- A text is answered (and whether it is told); the parameters' block b holds Q. -/
def NbTo (w : World) (b : Nat) (Q : Par) (s : ByteArray) (told : Bool) (e : Ending) (w' : World) : Prop :=
  e = .returned (.tuple #[.string s, .bool told]) ∧ w.grownBy w' (some b) ∧ w'.heap[b]? = some (.cells (parCells Q) 29 (0, 0))
def FlTo (w : World) (b : Nat) (Q : Par) (s : ByteArray) (e : Ending) (w' : World) : Prop :=
  e = .returned (.string s) ∧ w.grownBy w' (some b) ∧ w'.heap[b]? = some (.cells (parCells Q) 29 (0, 0))
theorem grown_one {w : World} {b : Nat} (k : Nat) (u : Value) : w.grownBy (w.setCell ⟨b, k, none⟩ u) (some b) := grown_set (grown_refl _ _) k u

theorem bd0 (k : ByteArray) (w : World) (hk : k.toList = [77, 97, 120, 82, 101, 99, 118, 68, 97, 116, 97, 83, 101, 103, 109, 101, 110, 116, 76, 101, 110, 103, 116, 104]) : Calls Tryd.prog 62 #[.string k] w (BdTo 512 16777215 true w) := by
  go_enter Tryd.func62, Tryd.ntmps62
  go_wp2_with fail
  go_ret3
  exact ⟨rfl, rfl⟩
theorem bd1 (k : ByteArray) (w : World) (hk : k.toList = [77, 97, 120, 66, 117, 114, 115, 116, 76, 101, 110, 103, 116, 104]) : Calls Tryd.prog 62 #[.string k] w (BdTo 512 16777215 true w) := by
  go_enter Tryd.func62, Tryd.ntmps62
  go_wp2_with fail
  go_ret3
  exact ⟨rfl, rfl⟩
theorem bd2 (k : ByteArray) (w : World) (hk : k.toList = [70, 105, 114, 115, 116, 66, 117, 114, 115, 116, 76, 101, 110, 103, 116, 104]) : Calls Tryd.prog 62 #[.string k] w (BdTo 512 16777215 true w) := by
  go_enter Tryd.func62, Tryd.ntmps62
  go_wp2_with fail
  go_ret3
  exact ⟨rfl, rfl⟩
theorem bd3 (k : ByteArray) (w : World) (hk : k.toList = [77, 97, 120, 67, 111, 110, 110, 101, 99, 116, 105, 111, 110, 115]) : Calls Tryd.prog 62 #[.string k] w (BdTo 1 65535 true w) := by
  go_enter Tryd.func62, Tryd.ntmps62
  go_wp2_with fail
  go_ret3
  exact ⟨rfl, rfl⟩
theorem bd4 (k : ByteArray) (w : World) (hk : k.toList = [77, 97, 120, 79, 117, 116, 115, 116, 97, 110, 100, 105, 110, 103, 82, 50, 84]) : Calls Tryd.prog 62 #[.string k] w (BdTo 1 65535 true w) := by
  go_enter Tryd.func62, Tryd.ntmps62
  go_wp2_with fail
  go_ret3
  exact ⟨rfl, rfl⟩
theorem bd5 (k : ByteArray) (w : World) (hk : k.toList = [69, 114, 114, 111, 114, 82, 101, 99, 111, 118, 101, 114, 121, 76, 101, 118, 101, 108]) : Calls Tryd.prog 62 #[.string k] w (BdTo 0 2 true w) := by
  go_enter Tryd.func62, Tryd.ntmps62
  go_wp2_with fail
  go_ret3
  exact ⟨rfl, rfl⟩
theorem bd6 (k : ByteArray) (w : World) (hk : k.toList = [68, 101, 102, 97, 117, 108, 116, 84, 105, 109, 101, 50, 87, 97, 105, 116]) : Calls Tryd.prog 62 #[.string k] w (BdTo 0 3600 true w) := by
  go_enter Tryd.func62, Tryd.ntmps62
  go_wp2_with fail
  go_ret3
  exact ⟨rfl, rfl⟩
theorem bd7 (k : ByteArray) (w : World) (hk : k.toList = [68, 101, 102, 97, 117, 108, 116, 84, 105, 109, 101, 50, 82, 101, 116, 97, 105, 110]) : Calls Tryd.prog 62 #[.string k] w (BdTo 0 3600 true w) := by
  go_enter Tryd.func62, Tryd.ntmps62
  go_wp2_with fail
  go_ret3
  exact ⟨rfl, rfl⟩
theorem bdE (k : ByteArray) (w : World) (g0 : (k.toList == [77, 97, 120, 82, 101, 99, 118, 68, 97, 116, 97, 83, 101, 103, 109, 101, 110, 116, 76, 101, 110, 103, 116, 104]) = false) (g1 : (k.toList == [77, 97, 120, 66, 117, 114, 115, 116, 76, 101, 110, 103, 116, 104]) = false) (g2 : (k.toList == [70, 105, 114, 115, 116, 66, 117, 114, 115, 116, 76, 101, 110, 103, 116, 104]) = false) (g3 : (k.toList == [77, 97, 120, 67, 111, 110, 110, 101, 99, 116, 105, 111, 110, 115]) = false) (g4 : (k.toList == [77, 97, 120, 79, 117, 116, 115, 116, 97, 110, 100, 105, 110, 103, 82, 50, 84]) = false) (g5 : (k.toList == [69, 114, 114, 111, 114, 82, 101, 99, 111, 118, 101, 114, 121, 76, 101, 118, 101, 108]) = false) (g6 : (k.toList == [68, 101, 102, 97, 117, 108, 116, 84, 105, 109, 101, 50, 87, 97, 105, 116]) = false) (g7 : (k.toList == [68, 101, 102, 97, 117, 108, 116, 84, 105, 109, 101, 50, 82, 101, 116, 97, 105, 110]) = false) : Calls Tryd.prog 62 #[.string k] w (BdTo 0 0 false w) := by
  go_enter Tryd.func62, Tryd.ntmps62
  go_wp2_with fail
  go_ret3
  exact ⟨rfl, rfl⟩
set_option maxRecDepth 100000 in
theorem nb0 (P : Par) (b : Nat) (k : ByteArray) (n : Int) (w : World) (hb : w.heap[b]? = some (.cells (parCells P) 29 (0, 0))) (hk : k.toList = [77, 97, 120, 82, 101, 99, 118, 68, 97, 116, 97, 83, 101, 103, 109, 101, 110, 116, 76, 101, 110, 103, 116, 104]) : Calls Tryd.prog 63 #[.pointer (some ⟨b, 0, none⟩), .string k, .int .i64 n] w (NbTo w b { P with mo := if 65536 < n then 65536 else n } ⟨#[]⟩ false) := by
  obtain ⟨c2, f2⟩ := cell_of hb (k := 2) (v := .int .i64 P.mo) rfl
  by_cases h : n < 65536
  · rw [if_neg (by omega)]
    have hp : (w.setCell ⟨b, 2, none⟩ (.int .i64 n)).heap[b]? = some (.cells (parCells { P with mo := n }) 29 (0, 0)) := blk_set hb 2 (.int .i64 n)
    have HP := Lib.hid hp
    clear hb hp
    go_enter Tryd.func63, Tryd.ntmps63
    go_wp2_with (go_at_call 36; refine (ylesser_lt _ _ _ h).mono ?_; rintro _ w1 ⟨rfl, rfl⟩)
    go_ret2
    exact ⟨rfl, grown_one _ _, HP.out⟩
  · rw [show (if 65536 < n then 65536 else n) = 65536 by split <;> omega]
    have hp : (w.setCell ⟨b, 2, none⟩ (.int .i64 65536)).heap[b]? = some (.cells (parCells { P with mo := 65536 }) 29 (0, 0)) := blk_set hb 2 (.int .i64 65536)
    have HP := Lib.hid hp
    clear hb hp
    go_enter Tryd.func63, Tryd.ntmps63
    go_wp2_with (go_at_call 36; refine (ylesser_ge _ _ _ h).mono ?_; rintro _ w1 ⟨rfl, rfl⟩)
    go_ret2
    exact ⟨rfl, grown_one _ _, HP.out⟩
set_option maxRecDepth 100000 in
theorem nb1 (P : Par) (b : Nat) (k : ByteArray) (n : Int) (w : World) (hb : w.heap[b]? = some (.cells (parCells P) 29 (0, 0))) (hk : k.toList = [77, 97, 120, 66, 117, 114, 115, 116, 76, 101, 110, 103, 116, 104]) (hn : in64 n) (hP : in64 P.bu) : Calls Tryd.prog 63 #[.pointer (some ⟨b, 0, none⟩), .string k, .int .i64 n] w (NbTo w b { P with bu := if n < P.bu then n else P.bu } ⟨(digP (if n < P.bu then n else P.bu)).toArray⟩ true) := by
  obtain ⟨c, f⟩ := cell_of hb (k := 4) (v := .int .i64 P.bu) rfl
  obtain ⟨x, hx⟩ : ∃ x, P.bu = x := ⟨_, rfl⟩
  rw [hx] at c hP ⊢
  have hp : ∀ y, (w.setCell ⟨b, 4, none⟩ (.int .i64 y)).heap[b]? = some (.cells (parCells { P with bu := y }) 29 (0, 0)) := fun y => blk_set hb 4 (.int .i64 y)
  have HP := Lib.hid hp
  have HD := Lib.hid (And.intro hn hP)
  clear hb hp hx hn hP
  by_cases h : n < x
  · rw [if_pos h]
    go_enter Tryd.func63, Tryd.ntmps63
    go_wp2_with (first | (go_at_call 36; refine (ylesser_lt _ _ _ h).mono ?_; rintro _ w1 ⟨rfl, rfl⟩) | (go_at_call 12; refine (ydigits_any n _ HD.out.1).mono ?_; rintro _ w2 ⟨rfl, hb2⟩; have HB := Lib.hid hb2; clear hb2))
    go_ret2
    exact ⟨rfl, grown_below (grown_one _ _) HB.out, blk_keep HB.out (HP.out _)⟩
  · rw [if_neg h]
    go_enter Tryd.func63, Tryd.ntmps63
    go_wp2_with (first | (go_at_call 36; refine (ylesser_ge _ _ _ h).mono ?_; rintro _ w1 ⟨rfl, rfl⟩) | (go_at_call 12; refine (ydigits_any x _ HD.out.2).mono ?_; rintro _ w2 ⟨rfl, hb2⟩; have HB := Lib.hid hb2; clear hb2))
    go_ret2
    exact ⟨rfl, grown_below (grown_one _ _) HB.out, blk_keep HB.out (HP.out _)⟩
set_option maxRecDepth 100000 in
theorem nb2 (P : Par) (b : Nat) (k : ByteArray) (n : Int) (w : World) (hb : w.heap[b]? = some (.cells (parCells P) 29 (0, 0))) (hk : k.toList = [70, 105, 114, 115, 116, 66, 117, 114, 115, 116, 76, 101, 110, 103, 116, 104]) (hn : in64 n) (hP : in64 P.fi) : Calls Tryd.prog 63 #[.pointer (some ⟨b, 0, none⟩), .string k, .int .i64 n] w (NbTo w b { P with fi := if n < P.fi then n else P.fi } ⟨(digP (if n < P.fi then n else P.fi)).toArray⟩ true) := by
  obtain ⟨c, f⟩ := cell_of hb (k := 5) (v := .int .i64 P.fi) rfl
  obtain ⟨x, hx⟩ : ∃ x, P.fi = x := ⟨_, rfl⟩
  rw [hx] at c hP ⊢
  have hp : ∀ y, (w.setCell ⟨b, 5, none⟩ (.int .i64 y)).heap[b]? = some (.cells (parCells { P with fi := y }) 29 (0, 0)) := fun y => blk_set hb 5 (.int .i64 y)
  have HP := Lib.hid hp
  have HD := Lib.hid (And.intro hn hP)
  clear hb hp hx hn hP
  by_cases h : n < x
  · rw [if_pos h]
    go_enter Tryd.func63, Tryd.ntmps63
    go_wp2_with (first | (go_at_call 36; refine (ylesser_lt _ _ _ h).mono ?_; rintro _ w1 ⟨rfl, rfl⟩) | (go_at_call 12; refine (ydigits_any n _ HD.out.1).mono ?_; rintro _ w2 ⟨rfl, hb2⟩; have HB := Lib.hid hb2; clear hb2))
    go_ret2
    exact ⟨rfl, grown_below (grown_one _ _) HB.out, blk_keep HB.out (HP.out _)⟩
  · rw [if_neg h]
    go_enter Tryd.func63, Tryd.ntmps63
    go_wp2_with (first | (go_at_call 36; refine (ylesser_ge _ _ _ h).mono ?_; rintro _ w1 ⟨rfl, rfl⟩) | (go_at_call 12; refine (ydigits_any x _ HD.out.2).mono ?_; rintro _ w2 ⟨rfl, hb2⟩; have HB := Lib.hid hb2; clear hb2))
    go_ret2
    exact ⟨rfl, grown_below (grown_one _ _) HB.out, blk_keep HB.out (HP.out _)⟩
set_option maxRecDepth 100000 in
theorem nb3 (P : Par) (b : Nat) (k : ByteArray) (n : Int) (w : World) (hb : w.heap[b]? = some (.cells (parCells P) 29 (0, 0))) (hk : k.toList = [77, 97, 120, 67, 111, 110, 110, 101, 99, 116, 105, 111, 110, 115]) : Calls Tryd.prog 63 #[.pointer (some ⟨b, 0, none⟩), .string k, .int .i64 n] w (NbTo w b P ⟨#[49]⟩ true) := by
  have HP := Lib.hid hb
  clear hb
  go_enter Tryd.func63, Tryd.ntmps63
  go_wp2_with fail
  go_ret2
  exact ⟨rfl, grown_refl _ _, HP.out⟩
set_option maxRecDepth 100000 in
theorem nb4 (P : Par) (b : Nat) (k : ByteArray) (n : Int) (w : World) (hb : w.heap[b]? = some (.cells (parCells P) 29 (0, 0))) (hk : k.toList = [77, 97, 120, 79, 117, 116, 115, 116, 97, 110, 100, 105, 110, 103, 82, 50, 84]) : Calls Tryd.prog 63 #[.pointer (some ⟨b, 0, none⟩), .string k, .int .i64 n] w (NbTo w b P ⟨#[49]⟩ true) := by
  have HP := Lib.hid hb
  clear hb
  go_enter Tryd.func63, Tryd.ntmps63
  go_wp2_with fail
  go_ret2
  exact ⟨rfl, grown_refl _ _, HP.out⟩
set_option maxRecDepth 100000 in
theorem nb5 (P : Par) (b : Nat) (k : ByteArray) (n : Int) (w : World) (hb : w.heap[b]? = some (.cells (parCells P) 29 (0, 0))) (hk : k.toList = [69, 114, 114, 111, 114, 82, 101, 99, 111, 118, 101, 114, 121, 76, 101, 118, 101, 108]) : Calls Tryd.prog 63 #[.pointer (some ⟨b, 0, none⟩), .string k, .int .i64 n] w (NbTo w b P ⟨#[48]⟩ true) := by
  have HP := Lib.hid hb
  clear hb
  go_enter Tryd.func63, Tryd.ntmps63
  go_wp2_with fail
  go_ret2
  exact ⟨rfl, grown_refl _ _, HP.out⟩
set_option maxRecDepth 100000 in
theorem nb7 (P : Par) (b : Nat) (k : ByteArray) (n : Int) (w : World) (hb : w.heap[b]? = some (.cells (parCells P) 29 (0, 0))) (hk : k.toList = [68, 101, 102, 97, 117, 108, 116, 84, 105, 109, 101, 50, 82, 101, 116, 97, 105, 110]) : Calls Tryd.prog 63 #[.pointer (some ⟨b, 0, none⟩), .string k, .int .i64 n] w (NbTo w b P ⟨#[48]⟩ true) := by
  have HP := Lib.hid hb
  clear hb
  go_enter Tryd.func63, Tryd.ntmps63
  go_wp2_with fail
  go_ret2
  exact ⟨rfl, grown_refl _ _, HP.out⟩
set_option maxRecDepth 100000 in
theorem nb6 (P : Par) (b : Nat) (k : ByteArray) (n : Int) (w : World) (hb : w.heap[b]? = some (.cells (parCells P) 29 (0, 0))) (hk : k.toList = [68, 101, 102, 97, 117, 108, 116, 84, 105, 109, 101, 50, 87, 97, 105, 116]) (hn : in64 n) : Calls Tryd.prog 63 #[.pointer (some ⟨b, 0, none⟩), .string k, .int .i64 n] w (NbTo w b P ⟨(digP (if n < 2 then 2 else n)).toArray⟩ true) := by
  have HP := Lib.hid hb
  have HD := Lib.hid hn
  clear hb hn
  by_cases h : n < 2
  · rw [if_pos h]
    go_enter Tryd.func63, Tryd.ntmps63
    go_wp2_with (go_at_call 12; refine (ydigits_any 2 _ (by unfold in64; omega)).mono ?_; rintro _ w2 ⟨rfl, hb2⟩; have HB := Lib.hid hb2; clear hb2)
    go_ret2
    exact ⟨rfl, grown_below (grown_refl _ _) HB.out, blk_keep HB.out HP.out⟩
  · rw [if_neg h]
    go_enter Tryd.func63, Tryd.ntmps63
    go_wp2_with (go_at_call 12; refine (ydigits_any n _ HD.out).mono ?_; rintro _ w2 ⟨rfl, hb2⟩; have HB := Lib.hid hb2; clear hb2)
    go_ret2
    exact ⟨rfl, grown_below (grown_refl _ _) HB.out, blk_keep HB.out HP.out⟩
set_option maxRecDepth 100000 in
theorem fl0 (P : Par) (b : Nat) (k : ByteArray) (x : Bool) (w : World) (hb : w.heap[b]? = some (.cells (parCells P) 29 (0, 0))) (hk : k.toList = [73, 110, 105, 116, 105, 97, 108, 82, 50, 84]) : Calls Tryd.prog 66 #[.pointer (some ⟨b, 0, none⟩), .string k, .bool x] w (FlTo w b { P with asked := P.asked || x } (flagS (P.asked || x))) := by
  obtain ⟨c, f⟩ := cell_of hb (k := 6) (v := .bool P.asked) rfl
  obtain ⟨a, ha⟩ : ∃ a, P.asked = a := ⟨_, rfl⟩
  rw [ha] at c ⊢
  have hp : ∀ y, (w.setCell ⟨b, 6, none⟩ (.bool y)).heap[b]? = some (.cells (parCells { P with asked := y }) 29 (0, 0)) := fun y => blk_set hb 6 (.bool y)
  have HP := Lib.hid hp
  clear hb hp ha
  cases a <;> cases x <;>
  · go_enter Tryd.func66, Tryd.ntmps66
    go_wp2_with (go_at_call 77; refine (yyes_any _ _).mono ?_; rintro _ w1 ⟨rfl, rfl⟩)
    go_ret
    exact ⟨rfl, grown_one _ _, HP.out _⟩
set_option maxRecDepth 100000 in
theorem fl1 (P : Par) (b : Nat) (k : ByteArray) (x : Bool) (w : World) (hb : w.heap[b]? = some (.cells (parCells P) 29 (0, 0))) (hk : k.toList = [73, 109, 109, 101, 100, 105, 97, 116, 101, 68, 97, 116, 97]) : Calls Tryd.prog 66 #[.pointer (some ⟨b, 0, none⟩), .string k, .bool x] w (FlTo w b { P with im := P.im && x } (flagS (P.im && x))) := by
  obtain ⟨c, f⟩ := cell_of hb (k := 7) (v := .bool P.im) rfl
  obtain ⟨a, ha⟩ : ∃ a, P.im = a := ⟨_, rfl⟩
  rw [ha] at c ⊢
  have hp : ∀ y, (w.setCell ⟨b, 7, none⟩ (.bool y)).heap[b]? = some (.cells (parCells { P with im := y }) 29 (0, 0)) := fun y => blk_set hb 7 (.bool y)
  have HP := Lib.hid hp
  clear hb hp ha
  cases a <;> cases x <;>
  · go_enter Tryd.func66, Tryd.ntmps66
    go_wp2_with (go_at_call 77; refine (yyes_any _ _).mono ?_; rintro _ w1 ⟨rfl, rfl⟩)
    go_ret
    exact ⟨rfl, grown_one _ _, HP.out _⟩
set_option maxRecDepth 100000 in
theorem fl2 (P : Par) (b : Nat) (k : ByteArray) (x : Bool) (w : World) (hb : w.heap[b]? = some (.cells (parCells P) 29 (0, 0))) (hk : k.toList = [68, 97, 116, 97, 80, 68, 85, 73, 110, 79, 114, 100, 101, 114]) : Calls Tryd.prog 66 #[.pointer (some ⟨b, 0, none⟩), .string k, .bool x] w (FlTo w b P yesS) := by
  have HP := Lib.hid hb
  clear hb
  go_enter Tryd.func66, Tryd.ntmps66
  go_wp2_with fail
  go_ret
  exact ⟨rfl, grown_refl _ _, HP.out⟩
set_option maxRecDepth 100000 in
theorem fl3 (P : Par) (b : Nat) (k : ByteArray) (x : Bool) (w : World) (hb : w.heap[b]? = some (.cells (parCells P) 29 (0, 0))) (hk : k.toList = [68, 97, 116, 97, 83, 101, 113, 117, 101, 110, 99, 101, 73, 110, 79, 114, 100, 101, 114]) : Calls Tryd.prog 66 #[.pointer (some ⟨b, 0, none⟩), .string k, .bool x] w (FlTo w b P yesS) := by
  have HP := Lib.hid hb
  clear hb
  go_enter Tryd.func66, Tryd.ntmps66
  go_wp2_with fail
  go_ret
  exact ⟨rfl, grown_refl _ _, HP.out⟩
set_option maxRecDepth 100000 in
theorem fl4 (P : Par) (b : Nat) (k : ByteArray) (x : Bool) (w : World) (hb : w.heap[b]? = some (.cells (parCells P) 29 (0, 0))) (hk : k.toList = [73, 70, 77, 97, 114, 107, 101, 114]) : Calls Tryd.prog 66 #[.pointer (some ⟨b, 0, none⟩), .string k, .bool x] w (FlTo w b P noS) := by
  have HP := Lib.hid hb
  clear hb
  go_enter Tryd.func66, Tryd.ntmps66
  go_wp2_with fail
  go_ret
  exact ⟨rfl, grown_refl _ _, HP.out⟩
set_option maxRecDepth 100000 in
theorem fl5 (P : Par) (b : Nat) (k : ByteArray) (x : Bool) (w : World) (hb : w.heap[b]? = some (.cells (parCells P) 29 (0, 0))) (hk : k.toList = [79, 70, 77, 97, 114, 107, 101, 114]) : Calls Tryd.prog 66 #[.pointer (some ⟨b, 0, none⟩), .string k, .bool x] w (FlTo w b P noS) := by
  have HP := Lib.hid hb
  clear hb
  go_enter Tryd.func66, Tryd.ntmps66
  go_wp2_with fail
  go_ret
  exact ⟨rfl, grown_refl _ _, HP.out⟩
theorem flE (P : Par) (b : Nat) (k : ByteArray) (x : Bool) (w : World) (hb : w.heap[b]? = some (.cells (parCells P) 29 (0, 0))) (g0 : (k.toList == [73, 110, 105, 116, 105, 97, 108, 82, 50, 84]) = false) (g1 : (k.toList == [73, 109, 109, 101, 100, 105, 97, 116, 101, 68, 97, 116, 97]) = false) (g2 : (k.toList == [68, 97, 116, 97, 80, 68, 85, 73, 110, 79, 114, 100, 101, 114]) = false) (g3 : (k.toList == [68, 97, 116, 97, 83, 101, 113, 117, 101, 110, 99, 101, 73, 110, 79, 114, 100, 101, 114]) = false) (g4 : (k.toList == [73, 70, 77, 97, 114, 107, 101, 114]) = false) (g5 : (k.toList == [79, 70, 77, 97, 114, 107, 101, 114]) = false) : Calls Tryd.prog 66 #[.pointer (some ⟨b, 0, none⟩), .string k, .bool x] w (FlTo w b P ⟨#[]⟩) := by
  have HP := Lib.hid hb
  clear hb
  go_enter Tryd.func66, Tryd.ntmps66
  go_wp2_with fail
  go_ret
  exact ⟨rfl, grown_refl _ _, HP.out⟩
end Go.Proofs.YtmehjcimohhopaaDoor

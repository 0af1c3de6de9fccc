/- Texts of such characters alone: the program's 'of'. No statement is proved here. -/
import Derived.Test.YtmehjcimohhopaaDoorBase
import Derived.Test.YtmehjcimohhopaaDoorTxtA
import Derived.Test.YtmehjcimohhopaaDoorChecked
import Derived.Lib.OthersKept
import Derived.Laws.RangeAny
namespace Go.Proofs.YtmehjcimohhopaaDoor
open Go.RowKit

/-- What a function on characters answers, whatever the world. -/
def Told (f : FuncId) (pr : Int → Bool) : Prop :=
  (∀ (args : Array Value) (w : World), Sem.run Tryd.prog (callFunc f args) w = .ok (.enter f args) w) ∧
  ∀ (c : Int) (w : World), 0 ≤ c → c ≤ 2147483647 → Calls Tryd.prog f #[.int .i32 c] w fun e w' => e = .returned (.bool (pr c)) ∧ Below w.heap.size w w'
def allB (pr : Int → Bool) (l : List UInt8) : Bool := l.all fun c => pr (c.toNat : Int)

theorem allB_take (pr : Int → Bool) (s : ByteArray) (k : Nat) (h : k < s.size) (ht : pr (s[k].toNat : Int) = true) (ha : allB pr (s.data.toList.take k) = true) : allB pr (s.data.toList.take (k + 1)) = true := by
  unfold allB at *
  have e : s.data.toList[k]'(by simpa using h) = s[k] := rfl
  rw [List.take_succ_eq_append_getElem (by simpa using h), List.all_append, ha, e]
  show (true && (pr (s[k].toNat : Int) && true)) = true
  rw [ht]
  rfl
theorem allB_no (pr : Int → Bool) (s : ByteArray) (k : Nat) (h : k < s.size) (ht : pr (s[k].toNat : Int) = false) : allB pr s.data.toList = false := by
  unfold allB
  rw [← List.take_append_drop k s.data.toList, List.all_append, List.drop_eq_getElem_cons (by simpa using h), List.all_cons]
  have : pr ((s.data.toList[k]'(by simpa using h)).toNat : Int) = false := ht
  rw [this]
  simp

set_option maxRecDepth 100000 in
set_option maxHeartbeats 2000000 in
theorem of_any (f : FuncId) (pr : Int → Bool) (hT : Told f pr) (hpr : ∀ c, 128 ≤ c → pr c = false) (s : ByteArray) (lo hi : Int) (w : World) :
    Calls Tryd.prog 31 #[.string s, .int .i64 lo, .int .i64 hi, .func (.func f) #[] #[]] w fun e w' =>
      e = .returned (.bool (decide (lo ≤ s.size) && decide ((s.size : Int) ≤ hi) && allB pr s.data.toList)) ∧ Below w.heap.size w w' := by
  have hrun := hT.1
  have HT := Lib.hid hT.2
  have HPR := Lib.hid hpr
  clear hT hpr
  obtain ⟨N, hN⟩ : ∃ N : Int, N = s.size := ⟨_, rfl⟩
  rw [← hN]
  by_cases h1 : N < lo
  · have e1 : decide (lo ≤ N) = false := by simpa using h1
    rw [e1]
    have hN' := hN.symm
    clear hN e1
    go_enter Tryd.func31, Tryd.ntmps31
    go_wp2_with fail
    go_ret
    exact ⟨rfl, Below.refl _ _⟩
  · by_cases h2 : hi < N
    · have e1 : decide (N ≤ hi) = false := by simpa using h2
      rw [e1]
      have hN' := hN.symm
      clear hN e1
      go_enter Tryd.func31, Tryd.ntmps31
      go_wp2_with fail
      go_ret
      exact ⟨by simp, Below.refl _ _⟩
    · have e1 : decide (lo ≤ N) = true := by simpa using h1
      have e2 : decide (N ≤ hi) = true := by simpa using h2
      rw [e1, e2]
      have hN' := hN.symm
      clear hN e1 e2
      go_enter Tryd.func31, Tryd.ntmps31
      go_wp2_with fail
      go_loopw [] (fun wr => ∃ k : Nat, k ≤ s.size ∧ wr.heap[w.heap.size]? = some (.stringIter s k) ∧ Below w.heap.size w wr ∧ Hid (allB pr (s.data.toList.take k) = true)) (fun wr => s.size - wr.iterPos w.heap.size)
      case atStart =>
        exact ⟨0, Nat.zero_le _, World.iter_heap w s 0, below_alloc (Below.refl _ w) _, Lib.hid rfl⟩
      case round =>
        obtain ⟨k, hk, hit, hbw, HA⟩ := hrel
        have hsz : w.heap.size < wr.heap.size := (Array.getElem?_eq_some_iff.1 hit).1
        by_cases hp : k < s.size
        · by_cases ha : (s[k]'hp).toNat < 128
          · have hnx : ∀ ty, (Instr.next (.pointer (some ⟨w.heap.size, 0, none⟩)) true ty).run Tryd.prog wr = _ := fun ty => Lib.run_next_ascii_at wr w.heap.size s k ty hit hp ha
            have hit2 := Lib.iterAt_heap wr w.heap.size s k (k + 1) hit
            have hbw2 := Lib.below_iterAt hbw (k := w.heap.size) (by omega) s (k + 1)
            have hsz2 : w.heap.size < (wr.iterAt w.heap.size s (k + 1)).heap.size := by rw [Lib.iterAt_size]; exact hsz
            have HC := Lib.hid (HT.out ((s[k]'hp).toNat : Int) (wr.iterAt w.heap.size s (k + 1)) (by omega) (by have := (s[k]'hp).toNat_lt; omega))
            have HB2 := Lib.hid (And.intro hbw2 (And.intro hit2 hsz2))
            have hitx := hit
            clear hbw2 hit2 hsz2
            cases hcp : pr ((s[k]'hp).toNat : Int) with
            | true =>
              rw [hcp] at HC
              have Hcp := Lib.hid hcp
              clear hcp
              go_wp2_with fail
              refine HC.out.mono ?_
              rintro _ W1 ⟨rfl, hb1⟩
              have Hb1 := Lib.hid hb1
              clear hb1
              go_wp2_with fail
              go_roundw
              case rel => exact ⟨k + 1, hp, blk_keep Hb1.out HB2.out.2.1, HB2.out.1.trans (Hb1.out.mono (Nat.le_of_lt HB2.out.2.2)), Lib.hid (allB_take pr s k hp Hcp.out HA.out)⟩
              case measure =>
                simp only [World.iterPos, blk_keep Hb1.out HB2.out.2.1, hitx]
                omega
            | false =>
              rw [hcp] at HC
              have Hcp := Lib.hid hcp
              clear hcp
              go_wp2_with fail
              refine HC.out.mono ?_
              rintro _ W1 ⟨rfl, hb1⟩
              have Hb1 := Lib.hid hb1
              clear hb1
              go_wp2_with fail
              go_ret
              exact ⟨by rw [allB_no pr s k hp Hcp.out]; rfl, HB2.out.1.trans (Hb1.out.mono (Nat.le_of_lt HB2.out.2.2))⟩
          · have hnx : ∀ ty, (Instr.next (.pointer (some ⟨w.heap.size, 0, none⟩)) true ty).run Tryd.prog wr = _ := fun ty => Lib.run_next_any_at wr w.heap.size s k ty hit hp
            have hd := decode_high s k hp (by omega)
            have hd1 := decode_le s k
            have hbw2 := Lib.below_iterAt hbw (k := w.heap.size) (by omega) s (k + (Utf8.decode s k).2)
            have hsz2 : w.heap.size < (wr.iterAt w.heap.size s (k + (Utf8.decode s k).2)).heap.size := by rw [Lib.iterAt_size]; exact hsz
            have hc := HT.out ((Utf8.decode s k).1 : Int) (wr.iterAt w.heap.size s (k + (Utf8.decode s k).2)) (by omega) (by omega)
            rw [HPR.out _ (by omega)] at hc
            have HC := Lib.hid hc
            have HB2 := Lib.hid (And.intro hbw2 hsz2)
            have hno : allB pr s.data.toList = false := allB_no pr s k hp (HPR.out _ (by omega))
            have Hno := Lib.hid hno
            clear hbw2 hsz2 hc hno hd hd1
            go_wp2_with fail
            refine HC.out.mono ?_
            rintro _ W1 ⟨rfl, hb1⟩
            have Hb1 := Lib.hid hb1
            clear hb1
            go_wp2_with fail
            go_ret
            exact ⟨by rw [Hno.out]; rfl, HB2.out.1.trans (Hb1.out.mono (Nat.le_of_lt HB2.out.2))⟩
        · obtain rfl : k = s.size := by omega
          have hnx : ∀ ty, (Instr.next (.pointer (some ⟨w.heap.size, 0, none⟩)) true ty).run Tryd.prog wr = _ := fun ty => Lib.run_next_end_at wr w.heap.size s s.size ty hit hp
          have hall : allB pr s.data.toList = true := by
            have := HA.out
            rwa [List.take_of_length_le (by simp)] at this
          have Hall := Lib.hid hall
          have HB2 := Lib.hid hbw
          clear hall hbw
          go_wp2_with fail
          go_ret
          exact ⟨by rw [Hall.out]; rfl, HB2.out⟩

def digitI (c : Int) : Bool := decide (48 ≤ c) && decide (c ≤ 57)
theorem digit_told : Told 32 digitI := by
  refine ⟨fun _ _ => by kernel_rfl, ?_⟩
  intro c w h0 h1
  by_cases h : 48 ≤ c
  · by_cases h2 : c ≤ 57
    · have e : digitI c = true := by simp [digitI, h, h2]
      rw [e]
      go_enter Tryd.func32, Tryd.ntmps32
      go_wp2_with fail
      go_ret
      exact ⟨rfl, Below.refl _ _⟩
    · have e : digitI c = false := by simp [digitI]; omega
      rw [e]
      go_enter Tryd.func32, Tryd.ntmps32
      go_wp2_with fail
      go_ret
      exact ⟨rfl, Below.refl _ _⟩
  · have e : digitI c = false := by simp [digitI]; omega
    rw [e]
    go_enter Tryd.func32, Tryd.ntmps32
    go_wp2_with fail
    go_ret
    exact ⟨rfl, Below.refl _ _⟩
end Go.Proofs.YtmehjcimohhopaaDoor

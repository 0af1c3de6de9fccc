/- Numbers as bytes, of package field: what each call does. No statement is proved here. -/
import Derived.Test.YtoaoldhajpbenaaEntA
import Derived.Handy
import Derived.Laws.Bits64b
namespace Go.Proofs.Ytoaoldhajpbenaa
open Go.RowKit

/-- Byte i of a number, the lowest one first. -/
def byteOf (n i : Nat) : UInt8 := UInt8.ofNat (n / 256 ^ i)
/-- A number as so many bytes, the highest first. -/
def be : Nat → Nat → List UInt8
  | 0, _ => []
  | k + 1, n => byteOf n k :: be k n
theorem be_length : ∀ (k n : Nat), (be k n).length = k
  | 0, _ => rfl
  | k + 1, n => by simp [be, be_length k n]

/-- The eight bytes of a number, as the walk has them. -/
def num8 (n : Int) : List Value := [.int .u8 (n / 72057594037927936), .int .u8 (n / 281474976710656 % 256), .int .u8 (n / 1099511627776 % 256), .int .u8 (n / 4294967296 % 256), .int .u8 (n / 16777216 % 256), .int .u8 (n / 65536 % 256), .int .u8 (n / 256 % 256), .int .u8 (n % 256)]
theorem byteOf_nat (n i : Nat) : ((byteOf n i).toNat : Int) = (n : Int) / (256 ^ i : Nat) % 256 := by
  show ((n / 256 ^ i % 256 : Nat) : Int) = _
  omega
theorem num8_be (n : Nat) (hn : n < 18446744073709551616) : num8 n = byteCells (be 8 n) := by
  unfold num8 byteCells
  simp only [be, List.map_cons, List.map_nil, byteOf_nat]
  have h7 : (n : Int) / 72057594037927936 = (n : Int) / (256 ^ 7 : Nat) % 256 := by
    have : ((256 ^ 7 : Nat) : Int) = 72057594037927936 := by decide
    rw [this]; omega
  rw [h7]
  have e0 : (n : Int) / (256 ^ 0 : Nat) = n := by simp
  rw [e0]
  rfl

set_option maxRecDepth 100000 in
set_option maxHeartbeats 1000000 in
theorem number_any (n : Nat) (w : World) (hn : n < 18446744073709551616) :
    Calls Try.prog 92 #[.int .u64 n] w fun e w' => e = .returned (.agg (num8 n).toArray) ∧ Below w.heap.size w w' := by
  have hb : ∀ o o', Below w.heap.size w ((w.alloc o).alloc o') := fun o o' => (box_below w o).alloc (by simp) o'
  go_enter Try.func92, Try.ntmps92
  go_wp2
  go_rounds 9
  refine bodyPost_ret (v := .agg (num8 n).toArray) ?_ rfl ⟨rfl, hb _ _⟩
  simp [results, Try.results92, go_sem, num8]

def fitsB (n : Nat) (size : Int) : Bool := decide (size = 8) || decide (n < 256 ^ size.toNat)

set_option maxHeartbeats 1000000 in
theorem fits_any (n : Nat) (size : Int) (w : World) (hn : n < 18446744073709551616) (h1 : 1 ≤ size) (h2 : size ≤ 8) :
    Calls Try.prog 105 #[.int .u64 n, .int .i64 size] w fun e w' => e = .returned (.bool (fitsB n size)) ∧ w = w' := by
  have hs : size = 1 ∨ size = 2 ∨ size = 3 ∨ size = 4 ∨ size = 5 ∨ size = 6 ∨ size = 7 ∨ size = 8 := by omega
  rcases hs with rfl | rfl | rfl | rfl | rfl | rfl | rfl | rfl
  all_goals
    go_enter Try.func105, Try.ntmps105
    go_wp2
    go_ret
    refine ⟨?_, rfl⟩
    simp [fitsB]
  all_goals (rw [Bool.eq_iff_iff]; simp; omega)

def thereB (n : Nat) (at_ size : Int) : Bool := decide (1 ≤ size) && decide (size ≤ 8) && decide (0 ≤ at_) && decide (size ≤ n) && decide (at_ ≤ n - size)

set_option maxHeartbeats 1000000 in
theorem there_any (A : Option Addr) (n c : Nat) (at_ size : Int) (w : World) (hn : n ≤ 9223372036854775807) (h1 : -9223372036854775808 ≤ at_) (h2 : at_ ≤ 9223372036854775807) (h3 : -9223372036854775808 ≤ size) (h4 : size ≤ 9223372036854775807) :
    Calls Try.prog 97 #[.slice A n c, .int .i64 at_, .int .i64 size] w fun e w' => e = .returned (.bool (thereB n at_ size)) ∧ w = w' := by
  by_cases c1 : 1 ≤ size
  · by_cases c2 : size ≤ 8
    · by_cases c3 : 0 ≤ at_
      · by_cases c4 : size ≤ n
        all_goals
          go_enter Try.func97, Try.ntmps97
          go_wp2
          go_ret
          refine ⟨?_, rfl⟩
          first | (simp [thereB, c1, c2, c3, c4]; done) | (simp [thereB, c1, c2, c3, c4]; omega)
      · go_enter Try.func97, Try.ntmps97
        go_wp2
        go_ret
        exact ⟨by simp [thereB, c1, c2, c3]; omega, rfl⟩
    · go_enter Try.func97, Try.ntmps97
      go_wp2
      go_ret
      exact ⟨by simp [thereB, c1, c2]; omega, rfl⟩
  · go_enter Try.func97, Try.ntmps97
    go_wp2
    go_ret
    exact ⟨by simp [thereB, c1]; omega, rfl⟩

theorem snoc_ind' {α : Type} {P : List α → Prop} (h0 : P []) (hs : ∀ l e, P l → P (l ++ [e])) (l : List α) : P l := by
  have h : ∀ r : List α, P r.reverse := by
    intro r
    induction r with
    | nil => exact h0
    | cons x r ih => rw [List.reverse_cons]; exact hs _ _ ih
  simpa using h l.reverse
/-- The number that bytes are. -/
def beVal (l : List UInt8) : Nat := l.foldl (fun a b => a * 256 + b.toNat) 0
theorem beVal_snoc (l : List UInt8) (b : UInt8) : beVal (l ++ [b]) = beVal l * 256 + b.toNat := by simp [beVal]
theorem beVal_lt (l : List UInt8) : beVal l < 256 ^ l.length := by
  refine snoc_ind' (P := fun l => beVal l < 256 ^ l.length) ?_ ?_ l
  · simp [beVal]
  · intro l b ih
    rw [beVal_snoc, List.length_append, List.length_singleton, Nat.pow_succ]
    have := b.toNat_lt
    omega

theorem or_byte (m c : Nat) (hm : m < 72057594037927936) (h : c < 2 ^ 8) : bits .or .u64 ((m : Int) * 256) (c : Int) = ((m * 256 + c : Nat) : Int) := by
  have e : (m : Int) * 256 = ((m * 256 : Nat) : Int) := by omega
  rw [e, bits_or_u64_nat _ _ (by omega) (by omega), show m * 256 = 2 ^ 8 * m by omega, ← Nat.two_pow_add_eq_or_of_lt h m]

set_option maxHeartbeats 1000000 in
theorem get_no (A : Option Addr) (n c : Nat) (at_ size : Int) (w : World) (hn : n ≤ 9223372036854775807) (h1 : -9223372036854775808 ≤ at_) (h2 : at_ ≤ 9223372036854775807) (h3 : -9223372036854775808 ≤ size) (h4 : size ≤ 9223372036854775807) (ht : thereB n at_ size = false) :
    Calls Try.prog 73 #[.slice A n c, .int .i64 at_, .int .i64 size] w fun e w' => e = .returned (.tuple #[.int .u64 0, .int .i64 1]) ∧ w = w' := by
  have hT := there_any A n c at_ size w hn h1 h2 h3 h4
  rw [ht] at hT
  have HT := Lib.hid hT
  clear hT ht
  go_enter Try.func73, Try.ntmps73
  go_wp2_with (go_at_call 97; refine HT.out.mono ?_; rintro _ w1 ⟨rfl, rfl⟩)
  go_ret2
  exact ⟨rfl, rfl⟩

set_option maxRecDepth 100000 in
set_option maxHeartbeats 2000000 in
theorem get_yes {S : Nat → Prop} (v : Value) (xs : List UInt8) (at_ size : Nat) (w : World) (hv : Bytes S w v xs) (h1 : 1 ≤ size) (h8 : size ≤ 8) (h2 : at_ + size ≤ xs.length) :
    Calls Try.prog 73 #[v, .int .i64 at_, .int .i64 size] w fun e w' => e = .returned (.tuple #[.int .u64 (beVal ((xs.drop at_).take size)), .int .i64 0]) ∧ w = w' := by
  have hle := hv.le
  unfold maxLen at hle
  have Hv := Lib.hid hv
  obtain ⟨b, o, c, rfl, hn, hc, -, hb, hcell⟩ := hv.form (by omega)
  have hT := there_any (some ⟨b, o, none⟩) xs.length c at_ size w hle (by omega) (by omega) (by omega) (by omega)
  have ht : thereB xs.length at_ size = true := by simp [thereB]; omega
  rw [ht] at hT
  have HT := Lib.hid hT
  have Hc := Lib.hid hcell
  unfold maxLen at hc
  clear hT ht hv hcell
  have g1 : (at_ : Int) + size ≤ (xs.length : Int) := by omega
  have g2 : (at_ : Int) + size ≤ (c : Int) := by omega
  have g3 : (xs.length : Int) ≤ (c : Int) := by omega
  have g4 : at_ < c := by omega
  go_enter Try.func73, Try.ntmps73
  go_wp2_with (go_at_call 97; refine HT.out.mono ?_; rintro _ w1 ⟨rfl, rfl⟩)
  rw [Nat.add_sub_cancel_left]
  go_loop [8, 23] (fun s8 s23 => ∃ k : Nat, k ≤ size ∧ s23 = .int .i64 k ∧ s8 = .int .u64 (beVal ((xs.drop at_).take k))) (fun _ s23 => size - (intOf s23).toNat)
  case atStart => exact ⟨0, Nat.zero_le _, rfl, rfl⟩
  case round =>
    obtain ⟨k, hk, rfl, rfl⟩ := hrel
    by_cases hlt : k < size
    · have hkl : at_ + k < xs.length := by omega
      have hck : w.cell? ⟨b, o + at_ + k, none⟩ = some (.int .u8 (xs[at_ + k].toNat)) := by
        rw [Nat.add_assoc]; exact Hc.out _ _ (byteCells_get xs _ hkl)
      have hsn : (xs.drop at_).take (k + 1) = (xs.drop at_).take k ++ [xs[at_ + k]] := by
        rw [List.take_succ_eq_append_getElem (by simp; omega)]; simp
      have hbv := beVal_snoc ((xs.drop at_).take k) xs[at_ + k]
      rw [← hsn] at hbv
      have hbl := beVal_lt ((xs.drop at_).take k)
      have hkk : ((xs.drop at_).take k).length = k := by simp; omega
      rw [hkk] at hbl
      have hpw : 256 ^ k ≤ 256 ^ 7 := Nat.pow_le_pow_right (by omega) (by omega)
      have Hbv := Lib.hid hbv
      have hx8 := (xs[at_ + k]).toNat_lt
      have hlt2 : (k : Int) < (size : Int) := by omega
      have hm : beVal ((xs.drop at_).take k) < 72057594037927936 := Nat.lt_of_lt_of_le hbl hpw
      clear hbv hbl hkk hpw hsn
      generalize beVal ((xs.drop at_).take k) = m at *
      generalize (xs[at_ + k]).toNat = cx at *
      go_wp2_with fail
      rw [or_byte m cx hm hx8]
      go_round
      case rel => exact ⟨k + 1, hlt, by go_num, by rw [Hbv.out]⟩
      case measure => simp [intOf]; omega
    · obtain rfl : k = size := by omega
      go_wp2_with fail
      go_ret2
      exact ⟨rfl, rfl⟩
end Go.Proofs.Ytoaoldhajpbenaa

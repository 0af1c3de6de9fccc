/- Texts that belong together, in one file: PckE, CrcA, EntC, LetA. No statement is proved here. -/
import Derived.Test.YtoaoldhajpbenaaQPckD
import Derived.Test.YtoaoldhajpbenaaQRefB
import Derived.Laws.BitsLemmas
import Derived.Test.YtoaoldhajpbenaaQFldF
namespace Go.Proofs.Ytoaoldhajpbenaa
open Go.RowKit

theorem foldl_val (l : List UInt8) : ∀ a : Nat, l.foldl (fun a b => a * 256 + b.toNat) a = a * 256 ^ l.length + beVal l := by
  induction l with
  | nil => intro a; simp [beVal]
  | cons x l ih =>
    intro a
    have h1 := ih (a * 256 + x.toNat)
    have h2 := ih (0 * 256 + x.toNat)
    show l.foldl _ (a * 256 + x.toNat) = _
    have e : beVal (x :: l) = l.foldl (fun a b => a * 256 + b.toNat) (0 * 256 + x.toNat) := rfl
    rw [h1, e, h2, List.length_cons, Nat.pow_succ, Nat.zero_mul, Nat.zero_add, Nat.add_mul, Nat.mul_assoc a 256, Nat.mul_comm 256 (256 ^ l.length), Nat.add_assoc]
theorem beVal_cons (x : UInt8) (l : List UInt8) : beVal (x :: l) = x.toNat * 256 ^ l.length + beVal l := by
  have := foldl_val l (0 * 256 + x.toNat)
  show l.foldl (fun a b => a * 256 + b.toNat) (0 * 256 + x.toNat) = _
  rw [this, Nat.zero_mul, Nat.zero_add]
theorem byteOf_add (a n i k : Nat) (h : i < k) : byteOf (a * 256 ^ k + n) i = byteOf n i := by
  unfold byteOf
  apply UInt8.toNat_inj.1
  show (a * 256 ^ k + n) / 256 ^ i % 256 = n / 256 ^ i % 256
  obtain ⟨d, rfl⟩ : ∃ d, k = i + 1 + d := ⟨k - i - 1, by omega⟩
  have hp : 0 < 256 ^ i := Nat.pow_pos (by omega)
  have e : a * 256 ^ (i + 1 + d) = (a * 256 ^ d * 256) * 256 ^ i := by
    rw [show i + 1 + d = d + 1 + i by omega, Nat.pow_add, Nat.pow_add, Nat.pow_one]
    rw [Nat.mul_assoc (a * 256 ^ d), ← Nat.mul_assoc a, ← Nat.mul_assoc a, Nat.mul_assoc (a * 256 ^ d)]
  rw [e, Nat.add_comm, Nat.add_mul_div_right _ _ hp]
  omega
theorem be_add (a n : Nat) : ∀ (j k : Nat), j ≤ k → be j (a * 256 ^ k + n) = be j n
  | 0, _, _ => rfl
  | j + 1, k, h => by
    show byteOf _ j :: be j _ = byteOf n j :: be j n
    rw [byteOf_add a n j k (by omega), be_add a n j k (by omega)]
theorem be_beVal : ∀ l : List UInt8, be l.length (beVal l) = l
  | [] => rfl
  | x :: l => by
    rw [List.length_cons, beVal_cons]
    show byteOf _ l.length :: be l.length _ = _
    rw [be_add _ _ _ _ (Nat.le_refl _), be_beVal l]
    congr 1
    unfold byteOf
    apply UInt8.toNat_inj.1
    show (x.toNat * 256 ^ l.length + beVal l) / 256 ^ l.length % 256 = x.toNat
    have hp : 0 < 256 ^ l.length := Nat.pow_pos (by omega)
    have hx := x.toNat_lt
    rw [Nat.add_comm, Nat.add_mul_div_right _ _ hp, Nat.div_eq_of_lt (beVal_lt l)]
    omega
theorem beVal_be (k n : Nat) (h : n < 256 ^ k) : beVal (be k n) = n := by
  have h1 := be_beVal (be k n)
  rw [be_length] at h1
  have key : ∀ k a b, a < 256 ^ k → b < 256 ^ k → be k a = be k b → a = b := by
    intro k
    induction k with
    | zero => intro a b ha hb _; simp at ha hb; omega
    | succ k ih =>
      intro a b ha hb he
      have hp : 0 < 256 ^ k := Nat.pow_pos (by omega)
      have e1 : byteOf a k = byteOf b k := by injection he
      have e2 : be k a = be k b := by injection he
      have q : a / 256 ^ k = b / 256 ^ k := by
        have := congrArg UInt8.toNat e1
        have h2 : a / 256 ^ k % 256 = b / 256 ^ k % 256 := this
        rw [Nat.pow_succ] at ha hb
        have ha' : a / 256 ^ k < 256 := Nat.div_lt_of_lt_mul ha
        have hb' : b / 256 ^ k < 256 := Nat.div_lt_of_lt_mul hb
        generalize a / 256 ^ k = x at *
        generalize b / 256 ^ k = y at *
        omega
      have ra : a = (a / 256 ^ k) * 256 ^ k + a % 256 ^ k := by rw [Nat.mul_comm]; exact (Nat.div_add_mod a _).symm
      have rb : b = (b / 256 ^ k) * 256 ^ k + b % 256 ^ k := by rw [Nat.mul_comm]; exact (Nat.div_add_mod b _).symm
      have e3 : be k (a % 256 ^ k) = be k (b % 256 ^ k) := by
        have a1 := be_add (a / 256 ^ k) (a % 256 ^ k) k k (Nat.le_refl _)
        have b1 := be_add (b / 256 ^ k) (b % 256 ^ k) k k (Nat.le_refl _)
        rw [← ra] at a1
        rw [← rb] at b1
        rw [← a1, ← b1, e2]
      have := ih _ _ (Nat.mod_lt a hp) (Nat.mod_lt b hp) e3
      rw [ra, rb, q, this]
  exact key k _ _ (by have := beVal_lt (be k n); rwa [be_length] at this) h h1

/-! Reading back what was written. -/
theorem rdNum_be (size n : Nat) (rest : List UInt8) (h : n < 256 ^ size) : rdNum size (be size n ++ rest, 0) = ((n : Int), (rest, 0)) := by
  unfold rdNum
  rw [if_neg (by simp), if_neg (by simp [be_length])]
  have hl := be_length size n
  have e1 : (be size n ++ rest).take size = be size n := by
    rw [List.take_append_of_le_length (by omega), List.take_of_length_le (by omega)]
  have e2 : (be size n ++ rest).drop size = rest := by
    rw [List.drop_append_of_le_length (by omega), List.drop_of_length_le (by omega), List.nil_append]
  show (((beVal ((be size n ++ rest).take size) : Nat) : Int), ((be size n ++ rest).drop size, (0 : Int))) = _
  rw [e1, e2, beVal_be size n h]
theorem cutOf_be (size : Nat) (p rest : List UInt8) (h : p.length < 256 ^ size) (h2 : p.length ≤ 65536) : cutOf size (be size p.length ++ p ++ rest) = (p, size + p.length, 0) := by
  unfold cutOf
  have hl := be_length size p.length
  have e1 : (be size p.length ++ p ++ rest).take size = be size p.length := by
    rw [List.append_assoc, List.take_append_of_le_length (by omega), List.take_of_length_le (by omega)]
  have e2 : (be size p.length ++ p ++ rest).drop size = p ++ rest := by
    rw [List.append_assoc, List.drop_append_of_le_length (by omega), List.drop_of_length_le (by omega), List.nil_append]
  rw [e1, e2, beVal_be _ _ h, if_neg (by simp [hl]), if_neg (by omega), if_neg (by simp [hl])]
  simp
theorem rdBytes_be (size : Nat) (p rest : List UInt8) (h : p.length < 256 ^ size) (h2 : p.length ≤ 65536) : rdBytes size (be size p.length ++ p ++ rest, 0) = (p, (rest, 0)) := by
  unfold rdBytes
  rw [if_neg (by simp)]
  have e := cutOf_be size p rest h h2
  have hl := be_length size p.length
  show (if (cutOf size (be size p.length ++ p ++ rest)).2.2 ≠ 0 then _ else _) = _
  rw [e, if_neg (by simp)]
  show (p, ((be size p.length ++ p ++ rest).drop (size + p.length), (0 : Int))) = _
  have e2 : (be size p.length ++ p ++ rest).drop (size + p.length) = rest := by
    rw [List.drop_append_of_le_length (by simp [hl]), List.drop_of_length_le (by simp [hl]), List.nil_append]
  rw [e2]
theorem rdEnt_enc (e : Ent) (rest : List UInt8) (h : rightB e = true) : rdEnt (encE e ++ rest, 0) = (e, (rest, 0)) := by
  obtain ⟨k0, k2, t1, t2, cl⟩ := rightB_facts h
  have e1 : encE e ++ rest = be 1 (e.kind + 64).toNat ++ (be 6 e.term.toNat ++ (be 2 e.cmd.length ++ e.cmd ++ rest)) := by simp [encE, List.append_assoc]
  have e2 := rdNum_be 1 (e.kind + 64).toNat (be 6 e.term.toNat ++ (be 2 e.cmd.length ++ e.cmd ++ rest)) (by omega)
  have e3 := rdNum_be 6 e.term.toNat (be 2 e.cmd.length ++ e.cmd ++ rest) (by omega)
  have e4 := rdBytes_be 2 e.cmd rest (by omega) (by omega)
  unfold rdEnt
  rw [e1, e2]
  simp only []
  rw [e3]
  simp only []
  rw [e4]
  obtain ⟨k, t, c⟩ := e
  simp only at k0 t1 ⊢
  congr 2
  · omega
  · omega
theorem unp_enc (e : Ent) (h : rightB e = true) : unpOf (encE e) = (e, 0) := by
  have := rdEnt_enc e [] h
  rw [List.append_nil] at this
  unfold unpOf
  rw [this]
  simp [endOf, h]

theorem rdNum_inv (size : Nat) (st : List UInt8 × Int) (h : (rdNum size st).2.2 = 0) : st.2 = 0 ∧ st.1 = be size (rdNum size st).1.toNat ++ (rdNum size st).2.1 := by
  unfold rdNum at *
  by_cases he : st.2 ≠ 0
  · rw [if_pos he] at h; exact absurd h he
  · rw [if_neg he] at h ⊢
    by_cases hl : st.1.length < size
    · rw [if_pos hl] at h; simp at h
    · rw [if_neg hl]
      refine ⟨by omega, ?_⟩
      show st.1 = be size ((beVal (st.1.take size) : Nat) : Int).toNat ++ st.1.drop size
      have := be_beVal (st.1.take size)
      rw [List.length_take, Nat.min_eq_left (by omega)] at this
      rw [Int.toNat_natCast, this, List.take_append_drop]
theorem rdBytes_inv (size : Nat) (st : List UInt8 × Int) (h : (rdBytes size st).2.2 = 0) : st.2 = 0 ∧ st.1 = be size (rdBytes size st).1.length ++ (rdBytes size st).1 ++ (rdBytes size st).2.1 := by
  unfold rdBytes at *
  by_cases he : st.2 ≠ 0
  · rw [if_pos he] at h; exact absurd h he
  · rw [if_neg he] at h ⊢
    by_cases hc : (cutOf size st.1).2.2 ≠ 0
    · rw [if_pos hc] at h; exact absurd h hc
    · rw [if_neg hc]
      refine ⟨by omega, ?_⟩
      show st.1 = be size (cutOf size st.1).1.length ++ (cutOf size st.1).1 ++ st.1.drop (cutOf size st.1).2.1
      have hc0 : (cutOf size st.1).2.2 = 0 := by omega
      clear h hc
      unfold cutOf at *
      by_cases h1 : st.1.length < size
      · rw [if_pos h1] at hc0; exact absurd hc0 (by decide)
      · rw [if_neg h1] at hc0 ⊢
        by_cases h2 : beVal (st.1.take size) > 65536
        · rw [if_pos h2] at hc0; exact absurd hc0 (by decide)
        · rw [if_neg h2] at hc0 ⊢
          by_cases h3 : st.1.length - size < beVal (st.1.take size)
          · rw [if_pos h3] at hc0; exact absurd hc0 (by decide)
          · rw [if_neg h3]
            show st.1 = be size ((st.1.drop size).take (beVal (st.1.take size))).length ++ (st.1.drop size).take (beVal (st.1.take size)) ++ st.1.drop (size + beVal (st.1.take size))
            have hlen : ((st.1.drop size).take (beVal (st.1.take size))).length = beVal (st.1.take size) := by simp; omega
            have hb := be_beVal (st.1.take size)
            rw [List.length_take, Nat.min_eq_left (by omega)] at hb
            rw [hlen, hb, List.append_assoc, ← List.drop_drop, List.take_append_drop, List.take_append_drop]
theorem rdEnt_inv (st : List UInt8 × Int) (h : (rdEnt st).2.2 = 0) : st.2 = 0 ∧ st.1 = encE (rdEnt st).1 ++ (rdEnt st).2.1 := by
  obtain ⟨h3, e3⟩ := rdBytes_inv 2 _ h
  obtain ⟨h2, e2⟩ := rdNum_inv 6 _ h3
  obtain ⟨h1, e1⟩ := rdNum_inv 1 _ h2
  refine ⟨h1, ?_⟩
  have ek : ((rdEnt st).1.kind + 64).toNat = (rdNum 1 st).1.toNat := by
    show ((rdNum 1 st).1 - 64 + 64).toNat = _
    rw [Int.sub_add_cancel]
  unfold encE
  rw [ek]
  show st.1 = be 1 (rdNum 1 st).1.toNat ++ be 6 (rdNum 6 (rdNum 1 st).2).1.toNat ++ be 2 (rdBytes 2 (rdNum 6 (rdNum 1 st).2).2).1.length ++ (rdBytes 2 (rdNum 6 (rdNum 1 st).2).2).1 ++ (rdBytes 2 (rdNum 6 (rdNum 1 st).2).2).2.1
  rw [List.append_assoc, List.append_assoc, List.append_assoc]
  rw [← List.append_assoc (be 2 _), ← e3, ← e2, ← e1]
theorem unp_inv (xs : List UInt8) (h : (unpOf xs).2 = 0) : rightB (unpOf xs).1 = true ∧ encE (unpOf xs).1 = xs := by
  unfold unpOf at *
  by_cases he : endOf (rdEnt (xs, 0)).2.1 (rdEnt (xs, 0)).2.2 ≠ 0
  · rw [if_pos he] at h; exact absurd h he
  · rw [if_neg he] at h ⊢
    by_cases hr : rightB (rdEnt (xs, 0)).1 = true
    · rw [if_pos hr] at h ⊢
      refine ⟨hr, ?_⟩
      have he0 : endOf (rdEnt (xs, 0)).2.1 (rdEnt (xs, 0)).2.2 = 0 := by omega
      unfold endOf at he0
      by_cases h0 : (rdEnt (xs, 0)).2.2 = 0
      · rw [if_pos h0] at he0
        by_cases hl : (rdEnt (xs, 0)).2.1.length = 0
        · have := (rdEnt_inv (xs, 0) h0).2
          rw [List.eq_nil_of_length_eq_zero hl, List.append_nil] at this
          exact this.symm
        · rw [if_neg hl] at he0; exact absurd he0 (by decide)
      · rw [if_neg h0] at he0; exact absurd he0 h0
    · rw [if_neg hr] at h; exact absurd h (by decide)
end Go.Proofs.Ytoaoldhajpbenaa

namespace Go.Proofs.Ytoaoldhajpbenaa
open Go.RowKit

/-- A register's step. -/
def crcT (r : Nat) : Nat := r / 2 ^^^ (if r % 2 = 1 then 2197175160 else 0)
def crcN : Nat → Nat → Nat
  | 0, r => r
  | n + 1, r => crcN n (crcT r)
def crcByte (r c : Nat) : Nat := crcN 8 (r ^^^ c)
def crcRun (r : Nat) (l : List UInt8) : Nat := l.foldl (fun r c => crcByte r c.toNat) r
def crcSum (l : List UInt8) : Nat := 4294967295 ^^^ crcRun 4294967295 l

theorem xor_u32 (a b : Nat) (ha : a < 4294967296) (hb : b < 4294967296) : bits .xor .u32 (a : Int) (b : Int) = ((a ^^^ b : Nat) : Int) := by
  have ha' : a % 2 ^ IntKind.u32.bits = a := Nat.mod_eq_of_lt ha
  have hb' : b % 2 ^ IntKind.u32.bits = b := Nat.mod_eq_of_lt hb
  have hx : a ^^^ b < 2 ^ 32 := Nat.xor_lt_two_pow ha hb
  simp only [bits, BitVec.ofInt_natCast, BitVec.toNat_xor, BitVec.toNat_ofNat, ha', hb']
  rw [IntKind.wrap_u32]
  omega
theorem and_u32 (a b : Nat) (ha : a < 4294967296) (hb : b < 4294967296) : bits .and .u32 (a : Int) (b : Int) = ((a &&& b : Nat) : Int) :=
  (bits_nat .u32 32 (by decide) (fun n h0 h1 => by rw [IntKind.wrap_u32]; omega) a b ha hb).1
theorem crcT_lt (r : Nat) (h : r < 4294967296) : crcT r < 4294967296 := by
  unfold crcT
  refine Nat.xor_lt_two_pow (n := 32) (by omega) ?_
  split <;> decide
theorem crcN_lt : ∀ (n r : Nat), r < 4294967296 → crcN n r < 4294967296
  | 0, _, h => h
  | n + 1, r, h => crcN_lt n _ (crcT_lt r h)
theorem crcN_succ : ∀ (n r : Nat), crcN (n + 1) r = crcT (crcN n r)
  | 0, _ => rfl
  | n + 1, r => crcN_succ n (crcT r)
theorem crcRun_lt (l : List UInt8) (r : Nat) (h : r < 4294967296) : crcRun r l < 4294967296 := by
  refine snoc_ind' (P := fun l => crcRun r l < 4294967296) ?_ ?_ l
  · exact h
  · intro l b ih
    show List.foldl _ r (l ++ [b]) < _
    rw [List.foldl_append]
    exact crcN_lt 8 _ (Nat.xor_lt_two_pow (n := 32) ih (by have := b.toNat_lt; omega))
theorem crcRun_snoc (r : Nat) (l : List UInt8) (b : UInt8) : crcRun r (l ++ [b]) = crcByte (crcRun r l) b.toNat := by
  unfold crcRun; rw [List.foldl_append]; rfl

theorem crc_step (z : Nat) (h : z < 4294967296) : bits .xor .u32 ((z : Int) / 2) (bits .and .u32 2197175160 (-bits .and .u32 (z : Int) 1 % 4294967296)) = (crcT z : Int) := by
  have h1 : bits .and .u32 (z : Int) 1 = ((z &&& 1 : Nat) : Int) := and_u32 z 1 h (by decide)
  have h2 : (z : Int) / 2 = ((z / 2 : Nat) : Int) := by omega
  rw [h1, h2, Nat.and_one_is_mod]
  have h3 : bits .and .u32 2197175160 (-((z % 2 : Nat) : Int) % 4294967296) = ((if z % 2 = 1 then 2197175160 else 0 : Nat) : Int) := by
    by_cases hz : z % 2 = 1
    · rw [hz, if_pos rfl]; decide
    · have : z % 2 = 0 := by omega
      rw [this, if_neg (by decide)]; decide
  rw [h3, xor_u32 _ _ (by omega) (by split <;> decide)]
  rfl

set_option maxRecDepth 100000 in
set_option maxHeartbeats 4000000 in
theorem more_any {S : Nat → Prop} (r : Nat) (v : Value) (l : List UInt8) (w : World) (hv : Bytes S w v l) (hr : r < 4294967296) :
    Calls Try.prog 94 #[.int .u32 r, v] w fun e w' => e = .returned (.int .u32 ((4294967295 ^^^ crcRun (4294967295 ^^^ r) l : Nat) : Int)) ∧ w = w' := by
  have hle := hv.le
  unfold maxLen at hle
  obtain ⟨A, c, rfl⟩ := hv.slice
  have Hv := Lib.hid hv
  have hx0 : bits .xor .u32 IntKind.u32.max (r : Int) = ((4294967295 ^^^ r : Nat) : Int) := xor_u32 4294967295 r (by decide) hr
  have hr0 : 4294967295 ^^^ r < 4294967296 := Nat.xor_lt_two_pow (n := 32) (by decide) hr
  obtain ⟨r0, e0⟩ : ∃ r0, r0 = 4294967295 ^^^ r := ⟨_, rfl⟩
  rw [← e0] at hx0 hr0 ⊢
  clear hv e0
  go_enter Try.func94, Try.ntmps94
  go_wp2_with fail
  clear hx0
  go_loop [5, 12] (fun s5 s12 => ∃ k : Nat, k ≤ l.length ∧ s12 = .int .i64 k ∧ s5 = .int .u32 (crcRun r0 (l.take k))) (fun _ s12 => l.length - (intOf s12).toNat)
  case atStart => exact ⟨0, Nat.zero_le _, rfl, rfl⟩
  case round =>
    obtain ⟨k, hk, rfl, rfl⟩ := hrel
    by_cases hlt : k < l.length
    · obtain ⟨b, o, c', hu, -, -, -, -, hcell⟩ := Hv.out.form (by omega)
      injection hu with hu _ hu2
      subst hu hu2
      have hck := hcell _ _ (byteCells_get l k hlt)
      have hsn : l.take (k + 1) = l.take k ++ [l[k]] := by
        rw [List.take_succ_eq_append_getElem hlt]
      have hcr := crcRun_snoc r0 (l.take k) l[k]
      rw [← hsn] at hcr
      have hlt0 := crcRun_lt (l.take k) r0 hr0
      have hx8 := l[k].toNat_lt
      have hxx := xor_u32 (crcRun r0 (l.take k)) l[k].toNat hlt0 (by omega)
      have hxl : crcRun r0 (l.take k) ^^^ l[k].toNat < 4294967296 := Nat.xor_lt_two_pow (n := 32) hlt0 (by omega)
      have Hcr := Lib.hid hcr
      have hlt2 : (k : Int) < (l.length : Int) := by omega
      clear hcr hsn hcell hlt0
      unfold crcByte at Hcr
      generalize crcRun r0 (l.take k) = x at *
      generalize (l[k]).toNat = cx at *
      generalize x ^^^ cx = y at *
      go_wp2_with fail
      clear hxx
      go_loop [5, 20] (fun s5 s20 => ∃ j : Nat, j ≤ 8 ∧ s20 = .int .i64 j ∧ s5 = .int .u32 (crcN j y)) (fun _ s20 => 8 - (intOf s20).toNat)
      case atStart => exact ⟨0, Nat.zero_le _, rfl, rfl⟩
      case round =>
        obtain ⟨j, hj, rfl, rfl⟩ := hrel
        by_cases hj8 : j < 8
        · have hjl := crcN_lt j y hxl
          have hjs := crcN_succ j y
          have Hjs := Lib.hid hjs
          have hj2 : (j : Int) < 8 := by omega
          clear hjs
          generalize crcN j y = z at *
          go_wp2_with fail
          go_round
          case rel => exact ⟨j + 1, hj8, by go_num, by rw [crc_step z hjl, Hjs.out]⟩
          case measure => simp [intOf]; omega
        · obtain rfl : j = 8 := by omega
          go_wp2_with fail
          go_round
          case rel => exact ⟨k + 1, hlt, by go_num, by rw [Hcr.out]⟩
          case measure => simp [intOf]; omega
    · obtain rfl : k = l.length := by omega
      have hrl := crcRun_lt (l.take l.length) r0 hr0
      rw [List.take_length] at *
      have hxl : bits .xor .u32 IntKind.u32.max (crcRun r0 l : Int) = ((4294967295 ^^^ crcRun r0 l : Nat) : Int) := xor_u32 4294967295 _ (by decide) hrl
      go_wp2_with fail
      go_ret
      exact ⟨rfl, rfl⟩

theorem sum_any {S : Nat → Prop} (v : Value) (l : List UInt8) (w : World) (hv : Bytes S w v l) :
    Calls Try.prog 68 #[v] w fun e w' => e = .returned (.int .u32 (crcSum l : Int)) ∧ w = w' := by
  have hm := more_any 0 v l w hv (by decide)
  have e : 4294967295 ^^^ 0 = 4294967295 := by decide
  rw [e] at hm
  have Hm := Lib.hid hm
  obtain ⟨A, c, rfl⟩ := hv.slice
  clear hm hv e
  go_enter Try.func68, Try.ntmps68
  go_wp2_with fail
  refine Hm.out.mono ?_
  rintro _ _ ⟨rfl, rfl⟩
  go_wp2_with fail
  go_ret
  exact ⟨rfl, rfl⟩

/-- The reference's register, its byte's bits beside it. -/
theorem xor_half (a b : Nat) : (a ^^^ b) / 2 = a / 2 ^^^ b / 2 := by
  have h := Nat.shiftRight_xor_distrib (a := a) (b := b) (i := 1)
  simpa [Nat.shiftRight_eq_div_pow] using h
theorem crcT_xor (r d : Nat) : crcT (r ^^^ d) = (r / 2 ^^^ (if (r ^^^ d) % 2 = 1 then 2197175160 else 0)) ^^^ d / 2 := by
  unfold crcT
  rw [xor_half, Nat.xor_assoc, Nat.xor_comm (d / 2), ← Nat.xor_assoc]

theorem step_eq (x n z : Nat) (hz : z = x ^^^ n) : crcT z ^^^ (n / 2) = x / 2 ^^^ (if z % 2 = 1 then 2197175160 else 0) := by
  rw [hz, crcT_xor, Nat.xor_assoc, Nat.xor_self, Nat.xor_zero]

set_option maxRecDepth 100000 in
set_option maxHeartbeats 4000000 in
theorem step_any (r c : Nat) (w : World) (hr : r < 4294967296) (hc : c < 256) :
    Calls Try.prog 109 #[.int .u32 r, .int .u8 c] w fun e w' => e = .returned (.int .u32 (crcByte r c : Int)) ∧ w = w' := by
  have hrc : r ^^^ c < 4294967296 := Nat.xor_lt_two_pow (n := 32) hr (by omega)
  have h0 : crcN 0 (r ^^^ c) ^^^ c / 2 ^ 0 = r := by
    show (r ^^^ c) ^^^ c / 1 = r
    rw [Nat.div_one, Nat.xor_assoc, Nat.xor_self, Nat.xor_zero]
  go_enter Try.func109, Try.ntmps109
  go_wp2_with fail
  go_loop [0, 5] (fun s0 s5 => ∃ i : Nat, i ≤ 8 ∧ s5 = .int .i64 i ∧ s0 = .int .u32 (crcN i (r ^^^ c) ^^^ c / 2 ^ i : Nat)) (fun _ s5 => 8 - (intOf s5).toNat)
  case atStart => exact ⟨0, Nat.zero_le _, rfl, by rw [h0]⟩
  case round =>
    obtain ⟨i, hi, rfl, rfl⟩ := hrel
    clear h0
    by_cases hi8 : i < 8
    · have hzl := crcN_lt i _ hrc
      obtain ⟨z, hz0⟩ : ∃ z, z = crcN i (r ^^^ c) := ⟨_, rfl⟩
      rw [← hz0] at hzl ⊢
      have hdl : c / 2 ^ i < 4294967296 := Nat.lt_of_le_of_lt (Nat.div_le_self _ _) (by omega)
      obtain ⟨x, hx0⟩ : ∃ x, x = z ^^^ c / 2 ^ i := ⟨_, rfl⟩
      have hxl : x < 4294967296 := by rw [hx0]; exact Nat.xor_lt_two_pow (n := 32) hzl hdl
      have hz : z = x ^^^ c / 2 ^ i := by rw [hx0, Nat.xor_assoc, Nat.xor_self, Nat.xor_zero]
      rw [← hx0]
      have hand1 : z % 2 = 1 → bits .and .u32 (z : Int) 1 = 1 := fun h => by
        have := and_u32 z 1 hzl (by decide)
        rw [Nat.and_one_is_mod, h] at this
        exact this
      have hand0 : ¬ z % 2 = 1 → bits .and .u32 (z : Int) 1 = 0 := fun h => by
        have := and_u32 z 1 hzl (by decide)
        rw [Nat.and_one_is_mod, show z % 2 = 0 by omega] at this
        exact this
      clear hx0 hdl
      have hci : i = 0 ∨ i = 1 ∨ i = 2 ∨ i = 3 ∨ i = 4 ∨ i = 5 ∨ i = 6 ∨ i = 7 := by omega
      rcases hci with rfl | rfl | rfl | rfl | rfl | rfl | rfl | rfl
      · have hx : bits .xor .u32 (x : Int) ((c : Int)) = ((z : Nat) : Int) := by
          have e : (c : Int) = ((c : Nat) : Int) := by omega
          first | (rw [e, xor_u32 _ _ hxl (by omega), hz]; done) | (rw [e, xor_u32 _ _ hxl (by omega), hz]; simp)
        have hn := step_eq x (c) z (by first | (rw [hz]; done) | (rw [hz]; simp))
        have hzz := crcN_succ 0 (r ^^^ c)
        rw [← hz0] at hzz
        have e2 : c / 2 = c / 2 ^ (0 + 1) := by simp
        rw [e2, ← hzz] at hn
        have Hn := Lib.hid hn
        clear hn hzz hz hz0 e2
        by_cases hodd : z % 2 = 1
        · have h1 := hand1 hodd
          rw [if_pos hodd] at Hn
          have hp : bits .xor .u32 ((x : Int) / 2) 2197175160 = ((x / 2 ^^^ 2197175160 : Nat) : Int) := by
            have e : (x : Int) / 2 = ((x / 2 : Nat) : Int) := by omega
            rw [e]; exact xor_u32 _ _ (by omega) (by decide)
          clear hand1 hand0
          go_wp2_with fail
          go_round
          case rel => exact ⟨0 + 1, by omega, by go_num, by rw [Hn.out]⟩
          case measure => simp [intOf]
        · have h1 := hand0 hodd
          rw [if_neg hodd, Nat.xor_zero] at Hn
          clear hand1 hand0
          go_wp2_with fail
          go_round
          case rel => exact ⟨0 + 1, by omega, by go_num, by rw [Hn.out]; go_num⟩
          case measure => simp [intOf]
      · have hx : bits .xor .u32 (x : Int) ((c : Int) / 2) = ((z : Nat) : Int) := by
          have e : (c : Int) / 2 = ((c / 2 : Nat) : Int) := by omega
          first | (rw [e, xor_u32 _ _ hxl (by omega), hz]; done) | (rw [e, xor_u32 _ _ hxl (by omega), hz]; simp)
        have hn := step_eq x (c / 2) z (by first | (rw [hz]; done) | (rw [hz]; simp))
        have hzz := crcN_succ 1 (r ^^^ c)
        rw [← hz0] at hzz
        have e2 : c / 2 / 2 = c / 2 ^ (1 + 1) := by rw [Nat.div_div_eq_div_mul]
        rw [e2, ← hzz] at hn
        have Hn := Lib.hid hn
        clear hn hzz hz hz0 e2
        by_cases hodd : z % 2 = 1
        · have h1 := hand1 hodd
          rw [if_pos hodd] at Hn
          have hp : bits .xor .u32 ((x : Int) / 2) 2197175160 = ((x / 2 ^^^ 2197175160 : Nat) : Int) := by
            have e : (x : Int) / 2 = ((x / 2 : Nat) : Int) := by omega
            rw [e]; exact xor_u32 _ _ (by omega) (by decide)
          clear hand1 hand0
          go_wp2_with fail
          go_round
          case rel => exact ⟨1 + 1, by omega, by go_num, by rw [Hn.out]⟩
          case measure => simp [intOf]
        · have h1 := hand0 hodd
          rw [if_neg hodd, Nat.xor_zero] at Hn
          clear hand1 hand0
          go_wp2_with fail
          go_round
          case rel => exact ⟨1 + 1, by omega, by go_num, by rw [Hn.out]; go_num⟩
          case measure => simp [intOf]
      · have hx : bits .xor .u32 (x : Int) ((c : Int) / 4) = ((z : Nat) : Int) := by
          have e : (c : Int) / 4 = ((c / 4 : Nat) : Int) := by omega
          first | (rw [e, xor_u32 _ _ hxl (by omega), hz]; done) | (rw [e, xor_u32 _ _ hxl (by omega), hz]; simp)
        have hn := step_eq x (c / 4) z (by first | (rw [hz]; done) | (rw [hz]; simp))
        have hzz := crcN_succ 2 (r ^^^ c)
        rw [← hz0] at hzz
        have e2 : c / 4 / 2 = c / 2 ^ (2 + 1) := by rw [Nat.div_div_eq_div_mul]
        rw [e2, ← hzz] at hn
        have Hn := Lib.hid hn
        clear hn hzz hz hz0 e2
        by_cases hodd : z % 2 = 1
        · have h1 := hand1 hodd
          rw [if_pos hodd] at Hn
          have hp : bits .xor .u32 ((x : Int) / 2) 2197175160 = ((x / 2 ^^^ 2197175160 : Nat) : Int) := by
            have e : (x : Int) / 2 = ((x / 2 : Nat) : Int) := by omega
            rw [e]; exact xor_u32 _ _ (by omega) (by decide)
          clear hand1 hand0
          go_wp2_with fail
          go_round
          case rel => exact ⟨2 + 1, by omega, by go_num, by rw [Hn.out]⟩
          case measure => simp [intOf]
        · have h1 := hand0 hodd
          rw [if_neg hodd, Nat.xor_zero] at Hn
          clear hand1 hand0
          go_wp2_with fail
          go_round
          case rel => exact ⟨2 + 1, by omega, by go_num, by rw [Hn.out]; go_num⟩
          case measure => simp [intOf]
      · have hx : bits .xor .u32 (x : Int) ((c : Int) / 8) = ((z : Nat) : Int) := by
          have e : (c : Int) / 8 = ((c / 8 : Nat) : Int) := by omega
          first | (rw [e, xor_u32 _ _ hxl (by omega), hz]; done) | (rw [e, xor_u32 _ _ hxl (by omega), hz]; simp)
        have hn := step_eq x (c / 8) z (by first | (rw [hz]; done) | (rw [hz]; simp))
        have hzz := crcN_succ 3 (r ^^^ c)
        rw [← hz0] at hzz
        have e2 : c / 8 / 2 = c / 2 ^ (3 + 1) := by rw [Nat.div_div_eq_div_mul]
        rw [e2, ← hzz] at hn
        have Hn := Lib.hid hn
        clear hn hzz hz hz0 e2
        by_cases hodd : z % 2 = 1
        · have h1 := hand1 hodd
          rw [if_pos hodd] at Hn
          have hp : bits .xor .u32 ((x : Int) / 2) 2197175160 = ((x / 2 ^^^ 2197175160 : Nat) : Int) := by
            have e : (x : Int) / 2 = ((x / 2 : Nat) : Int) := by omega
            rw [e]; exact xor_u32 _ _ (by omega) (by decide)
          clear hand1 hand0
          go_wp2_with fail
          go_round
          case rel => exact ⟨3 + 1, by omega, by go_num, by rw [Hn.out]⟩
          case measure => simp [intOf]
        · have h1 := hand0 hodd
          rw [if_neg hodd, Nat.xor_zero] at Hn
          clear hand1 hand0
          go_wp2_with fail
          go_round
          case rel => exact ⟨3 + 1, by omega, by go_num, by rw [Hn.out]; go_num⟩
          case measure => simp [intOf]
      · have hx : bits .xor .u32 (x : Int) ((c : Int) / 16) = ((z : Nat) : Int) := by
          have e : (c : Int) / 16 = ((c / 16 : Nat) : Int) := by omega
          first | (rw [e, xor_u32 _ _ hxl (by omega), hz]; done) | (rw [e, xor_u32 _ _ hxl (by omega), hz]; simp)
        have hn := step_eq x (c / 16) z (by first | (rw [hz]; done) | (rw [hz]; simp))
        have hzz := crcN_succ 4 (r ^^^ c)
        rw [← hz0] at hzz
        have e2 : c / 16 / 2 = c / 2 ^ (4 + 1) := by rw [Nat.div_div_eq_div_mul]
        rw [e2, ← hzz] at hn
        have Hn := Lib.hid hn
        clear hn hzz hz hz0 e2
        by_cases hodd : z % 2 = 1
        · have h1 := hand1 hodd
          rw [if_pos hodd] at Hn
          have hp : bits .xor .u32 ((x : Int) / 2) 2197175160 = ((x / 2 ^^^ 2197175160 : Nat) : Int) := by
            have e : (x : Int) / 2 = ((x / 2 : Nat) : Int) := by omega
            rw [e]; exact xor_u32 _ _ (by omega) (by decide)
          clear hand1 hand0
          go_wp2_with fail
          go_round
          case rel => exact ⟨4 + 1, by omega, by go_num, by rw [Hn.out]⟩
          case measure => simp [intOf]
        · have h1 := hand0 hodd
          rw [if_neg hodd, Nat.xor_zero] at Hn
          clear hand1 hand0
          go_wp2_with fail
          go_round
          case rel => exact ⟨4 + 1, by omega, by go_num, by rw [Hn.out]; go_num⟩
          case measure => simp [intOf]
      · have hx : bits .xor .u32 (x : Int) ((c : Int) / 32) = ((z : Nat) : Int) := by
          have e : (c : Int) / 32 = ((c / 32 : Nat) : Int) := by omega
          first | (rw [e, xor_u32 _ _ hxl (by omega), hz]; done) | (rw [e, xor_u32 _ _ hxl (by omega), hz]; simp)
        have hn := step_eq x (c / 32) z (by first | (rw [hz]; done) | (rw [hz]; simp))
        have hzz := crcN_succ 5 (r ^^^ c)
        rw [← hz0] at hzz
        have e2 : c / 32 / 2 = c / 2 ^ (5 + 1) := by rw [Nat.div_div_eq_div_mul]
        rw [e2, ← hzz] at hn
        have Hn := Lib.hid hn
        clear hn hzz hz hz0 e2
        by_cases hodd : z % 2 = 1
        · have h1 := hand1 hodd
          rw [if_pos hodd] at Hn
          have hp : bits .xor .u32 ((x : Int) / 2) 2197175160 = ((x / 2 ^^^ 2197175160 : Nat) : Int) := by
            have e : (x : Int) / 2 = ((x / 2 : Nat) : Int) := by omega
            rw [e]; exact xor_u32 _ _ (by omega) (by decide)
          clear hand1 hand0
          go_wp2_with fail
          go_round
          case rel => exact ⟨5 + 1, by omega, by go_num, by rw [Hn.out]⟩
          case measure => simp [intOf]
        · have h1 := hand0 hodd
          rw [if_neg hodd, Nat.xor_zero] at Hn
          clear hand1 hand0
          go_wp2_with fail
          go_round
          case rel => exact ⟨5 + 1, by omega, by go_num, by rw [Hn.out]; go_num⟩
          case measure => simp [intOf]
      · have hx : bits .xor .u32 (x : Int) ((c : Int) / 64) = ((z : Nat) : Int) := by
          have e : (c : Int) / 64 = ((c / 64 : Nat) : Int) := by omega
          first | (rw [e, xor_u32 _ _ hxl (by omega), hz]; done) | (rw [e, xor_u32 _ _ hxl (by omega), hz]; simp)
        have hn := step_eq x (c / 64) z (by first | (rw [hz]; done) | (rw [hz]; simp))
        have hzz := crcN_succ 6 (r ^^^ c)
        rw [← hz0] at hzz
        have e2 : c / 64 / 2 = c / 2 ^ (6 + 1) := by rw [Nat.div_div_eq_div_mul]
        rw [e2, ← hzz] at hn
        have Hn := Lib.hid hn
        clear hn hzz hz hz0 e2
        by_cases hodd : z % 2 = 1
        · have h1 := hand1 hodd
          rw [if_pos hodd] at Hn
          have hp : bits .xor .u32 ((x : Int) / 2) 2197175160 = ((x / 2 ^^^ 2197175160 : Nat) : Int) := by
            have e : (x : Int) / 2 = ((x / 2 : Nat) : Int) := by omega
            rw [e]; exact xor_u32 _ _ (by omega) (by decide)
          clear hand1 hand0
          go_wp2_with fail
          go_round
          case rel => exact ⟨6 + 1, by omega, by go_num, by rw [Hn.out]⟩
          case measure => simp [intOf]
        · have h1 := hand0 hodd
          rw [if_neg hodd, Nat.xor_zero] at Hn
          clear hand1 hand0
          go_wp2_with fail
          go_round
          case rel => exact ⟨6 + 1, by omega, by go_num, by rw [Hn.out]; go_num⟩
          case measure => simp [intOf]
      · have hx : bits .xor .u32 (x : Int) ((c : Int) / 128) = ((z : Nat) : Int) := by
          have e : (c : Int) / 128 = ((c / 128 : Nat) : Int) := by omega
          first | (rw [e, xor_u32 _ _ hxl (by omega), hz]; done) | (rw [e, xor_u32 _ _ hxl (by omega), hz]; simp)
        have hn := step_eq x (c / 128) z (by first | (rw [hz]; done) | (rw [hz]; simp))
        have hzz := crcN_succ 7 (r ^^^ c)
        rw [← hz0] at hzz
        have e2 : c / 128 / 2 = c / 2 ^ (7 + 1) := by rw [Nat.div_div_eq_div_mul]
        rw [e2, ← hzz] at hn
        have Hn := Lib.hid hn
        clear hn hzz hz hz0 e2
        by_cases hodd : z % 2 = 1
        · have h1 := hand1 hodd
          rw [if_pos hodd] at Hn
          have hp : bits .xor .u32 ((x : Int) / 2) 2197175160 = ((x / 2 ^^^ 2197175160 : Nat) : Int) := by
            have e : (x : Int) / 2 = ((x / 2 : Nat) : Int) := by omega
            rw [e]; exact xor_u32 _ _ (by omega) (by decide)
          clear hand1 hand0
          go_wp2_with fail
          go_round
          case rel => exact ⟨7 + 1, by omega, by go_num, by rw [Hn.out]⟩
          case measure => simp [intOf]
        · have h1 := hand0 hodd
          rw [if_neg hodd, Nat.xor_zero] at Hn
          clear hand1 hand0
          go_wp2_with fail
          go_round
          case rel => exact ⟨7 + 1, by omega, by go_num, by rw [Hn.out]; go_num⟩
          case measure => simp [intOf]
    · obtain rfl : i = 8 := by omega
      have e : crcN 8 (r ^^^ c) ^^^ c / 2 ^ 8 = crcByte r c := by
        rw [show c / 2 ^ 8 = 0 from Nat.div_eq_of_lt (by omega), Nat.xor_zero]; rfl
      rw [e]
      clear e
      go_wp2_with fail
      go_ret
      exact ⟨rfl, rfl⟩

set_option maxRecDepth 100000 in
set_option maxHeartbeats 4000000 in
theorem rmore_any {S : Nat → Prop} (r : Nat) (v : Value) (l : List UInt8) (w : World) (hv : Bytes S w v l) (hr : r < 4294967296) :
    Calls Try.prog 96 #[.int .u32 r, v] w fun e w' => e = .returned (.int .u32 ((4294967295 ^^^ crcRun (4294967295 ^^^ r) l : Nat) : Int)) ∧ w = w' := by
  have hle := hv.le
  unfold maxLen at hle
  obtain ⟨A, c, rfl⟩ := hv.slice
  have Hv := Lib.hid hv
  have hx0 : bits .xor .u32 IntKind.u32.max (r : Int) = ((4294967295 ^^^ r : Nat) : Int) := xor_u32 4294967295 r (by decide) hr
  have hr0 : 4294967295 ^^^ r < 4294967296 := Nat.xor_lt_two_pow (n := 32) (by decide) hr
  obtain ⟨r0, e0⟩ : ∃ r0, r0 = 4294967295 ^^^ r := ⟨_, rfl⟩
  rw [← e0] at hx0 hr0 ⊢
  clear hv e0
  go_enter Try.func96, Try.ntmps96
  go_wp2_with fail
  clear hx0
  go_loop [5, 6] (fun s5 s6 => ∃ k : Nat, k ≤ l.length ∧ s6 = .int .i64 k ∧ s5 = .int .u32 (crcRun r0 (l.take k))) (fun _ s6 => l.length - (intOf s6).toNat)
  case atStart => exact ⟨0, Nat.zero_le _, rfl, rfl⟩
  case round =>
    obtain ⟨k, hk, rfl, rfl⟩ := hrel
    by_cases hlt : k < l.length
    · obtain ⟨b, o, c', hu, -, -, -, -, hcell⟩ := Hv.out.form (by omega)
      injection hu with hu _ hu2
      subst hu hu2
      have hck := hcell _ _ (byteCells_get l k hlt)
      have hsn : l.take (k + 1) = l.take k ++ [l[k]] := by
        rw [List.take_succ_eq_append_getElem hlt]
      have hcr := crcRun_snoc r0 (l.take k) l[k]
      rw [← hsn] at hcr
      have hst := Lib.hid (step_any (crcRun r0 (l.take k)) l[k].toNat w (crcRun_lt (l.take k) r0 hr0) (by have := l[k].toNat_lt; omega))
      have Hcr := Lib.hid hcr
      have hlt2 : (k : Int) < (l.length : Int) := by omega
      clear hcr hsn hcell
      generalize crcRun r0 (l.take k) = x at *
      generalize (l[k]).toNat = cx at *
      go_wp2_with (go_at_call 109; refine hst.out.mono ?_; rintro _ _ ⟨rfl, rfl⟩)
      go_round
      case rel => exact ⟨k + 1, hlt, by go_num, by rw [Hcr.out]⟩
      case measure => simp [intOf]; omega
    · obtain rfl : k = l.length := by omega
      have hrl := crcRun_lt (l.take l.length) r0 hr0
      rw [List.take_length] at *
      have hxl : bits .xor .u32 IntKind.u32.max (crcRun r0 l : Int) = ((4294967295 ^^^ crcRun r0 l : Nat) : Int) := xor_u32 4294967295 _ (by decide) hrl
      go_wp2_with fail
      go_ret
      exact ⟨rfl, rfl⟩
theorem rsum_any {S : Nat → Prop} (v : Value) (l : List UInt8) (w : World) (hv : Bytes S w v l) :
    Calls Try.prog 72 #[v] w fun e w' => e = .returned (.int .u32 (crcSum l : Int)) ∧ w = w' := by
  have hm := rmore_any 0 v l w hv (by decide)
  have e : 4294967295 ^^^ 0 = 4294967295 := by decide
  rw [e] at hm
  have Hm := Lib.hid hm
  obtain ⟨A, c, rfl⟩ := hv.slice
  clear hm hv e
  go_enter Try.func72, Try.ntmps72
  go_wp2_with fail
  refine Hm.out.mono ?_
  rintro _ _ ⟨rfl, rfl⟩
  go_wp2_with fail
  go_ret
  exact ⟨rfl, rfl⟩
theorem crcSum_lt (l : List UInt8) : crcSum l < 4294967296 := Nat.xor_lt_two_pow (n := 32) (by decide) (crcRun_lt l _ (by decide))
end Go.Proofs.Ytoaoldhajpbenaa

namespace Go.Proofs.Ytoaoldhajpbenaa
open Go.RowKit

/-- The cells of entries. -/
def EntCells (S : Nat → Prop) (w : World) : List Ent → List Value → Prop
  | [], cs => cs = []
  | e :: es, cs => ∃ v cs', cs = .int .i64 e.kind :: .int .i64 e.term :: v :: cs' ∧ in64 e.kind ∧ in64 e.term ∧ Bytes S w v e.cmd ∧ EntCells S w es cs'
def Ents (S : Nat → Prop) (w : World) (v : Value) (es : List Ent) : Prop := ∃ cs, RowAt S w v es.length 3 cs ∧ EntCells S w es cs

theorem EntCells.keepS {S : Nat → Prop} {w w' : World} (hs : Same S w w') : ∀ {es : List Ent} {cs : List Value}, EntCells S w es cs → EntCells S w' es cs
  | [], _, h => h
  | _ :: _, _, ⟨v, cs', hc, h1, h2, hb, hr⟩ => ⟨v, cs', hc, h1, h2, hb.keepS hs, EntCells.keepS hs hr⟩
theorem EntCells.mono {S T : Nat → Prop} {w : World} (hT : ∀ b, b < w.heap.size → S b → T b) : ∀ {es : List Ent} {cs : List Value}, EntCells S w es cs → EntCells T w es cs
  | [], _, h => h
  | _ :: _, _, ⟨v, cs', hc, h1, h2, hb, hr⟩ => ⟨v, cs', hc, h1, h2, hb.mono hT, EntCells.mono hT hr⟩
theorem EntCells.length {S : Nat → Prop} {w : World} : ∀ {es : List Ent} {cs : List Value}, EntCells S w es cs → cs.length = es.length * 3
  | [], _, h => by cases h; rfl
  | _ :: es, _, ⟨v, cs', hc, _, _, _, hr⟩ => by have := EntCells.length hr; subst hc; simp; omega
theorem EntCells.append {S : Nat → Prop} {w : World} : ∀ {es fs : List Ent} {cs ds : List Value}, EntCells S w es cs → EntCells S w fs ds → EntCells S w (es ++ fs) (cs ++ ds)
  | [], _, _, _, h, k => by cases h; exact k
  | _ :: _, _, _, _, ⟨v, cs', hc, h1, h2, hb, hr⟩, k => ⟨v, cs' ++ _, by subst hc; rfl, h1, h2, hb, EntCells.append hr k⟩
/-- The cells of one entry. -/
theorem EntCells.at {S : Nat → Prop} {w : World} : ∀ {es : List Ent} {cs : List Value}, EntCells S w es cs → ∀ i (h : i < es.length),
    ∃ v, cs[i * 3]? = some (.int .i64 es[i].kind) ∧ cs[i * 3 + 1]? = some (.int .i64 es[i].term) ∧ cs[i * 3 + 2]? = some v ∧ in64 es[i].kind ∧ in64 es[i].term ∧ Bytes S w v es[i].cmd
  | [], _, _, i, h => by simp at h
  | e :: es, _, ⟨v, cs', hc, h1, h2, hb, hr⟩, 0, h => ⟨v, by simp [hc], by simp [hc], by simp [hc], h1, h2, hb⟩
  | e :: es, _, ⟨v, cs', hc, h1, h2, hb, hr⟩, i + 1, h => by
    obtain ⟨u, ha, hb', hc', hd⟩ := EntCells.at hr i (by simpa using h)
    refine ⟨u, ?_, ?_, ?_, by simpa using hd⟩
    · rw [hc, show (i + 1) * 3 = i * 3 + 3 by omega]; simpa using ha
    · rw [hc, show (i + 1) * 3 + 1 = i * 3 + 1 + 3 by omega]; simpa using hb'
    · rw [hc, show (i + 1) * 3 + 2 = i * 3 + 2 + 3 by omega]; simpa using hc'
theorem EntCells.drop {S : Nat → Prop} {w : World} : ∀ {es : List Ent} {cs : List Value} (k : Nat), EntCells S w es cs → EntCells S w (es.drop k) (cs.drop (k * 3))
  | _, _, 0, h => by simpa using h
  | [], _, k + 1, h => by cases h; simp [EntCells]
  | e :: es, _, k + 1, ⟨v, cs', hc, h1, h2, hb, hr⟩ => by
    have := EntCells.drop k hr
    rw [hc, show (k + 1) * 3 = k * 3 + 3 by omega]
    simpa using this
theorem EntCells.take {S : Nat → Prop} {w : World} : ∀ {es : List Ent} {cs : List Value} (k : Nat), EntCells S w es cs → EntCells S w (es.take k) (cs.take (k * 3))
  | _, _, 0, h => by simp [EntCells]
  | [], _, k + 1, h => by cases h; simp [EntCells]
  | e :: es, _, k + 1, ⟨v, cs', hc, h1, h2, hb, hr⟩ => by
    have := EntCells.take k hr
    rw [hc, show (k + 1) * 3 = k * 3 + 3 by omega]
    exact ⟨v, cs'.take (k * 3), by simp, h1, h2, hb, this⟩
theorem Ents.keepS {S : Nat → Prop} {w w' : World} {v : Value} {es : List Ent} (h : Ents S w v es) (hs : Same S w w') : Ents S w' v es := by
  obtain ⟨cs, hr, he⟩ := h; exact ⟨cs, hr.keepS hs, he.keepS hs⟩
theorem Ents.keep {S : Nat → Prop} {w w' : World} {v : Value} {es : List Ent} (h : Ents S w v es) (hb : Below w.heap.size w w') : Ents S w' v es := h.keepS (Same.of_below' hb S)
theorem Ents.mono {S T : Nat → Prop} {w : World} {v : Value} {es : List Ent} (h : Ents S w v es) (hT : ∀ b, b < w.heap.size → S b → T b) : Ents T w v es := by
  obtain ⟨cs, hr, he⟩ := h; exact ⟨cs, hr.mono hT, he.mono hT⟩
theorem Ents.slice {S : Nat → Prop} {w : World} {v : Value} {es : List Ent} (h : Ents S w v es) : ∃ A c, v = .slice A es.length c := by
  obtain ⟨cs, hr, he⟩ := h; exact hr.slice

/-- A part of a log: its floor, or a run. -/
inductive Part where
  | ground (at_ term members : Int)
  | run (from_ : Int) (l : List Ent)
def headTerm (l : List Ent) : Int := match l with | [] => 0 | e :: _ => e.term
def Part.lastAt : Part → Int
  | .ground a _ _ => a
  | .run f l => f + l.length - 1
def Part.lastTerm : Part → Int
  | .ground _ t _ => t
  | .run _ l => headTerm l
def Part.has (n : Int) : Part → Bool
  | .ground a _ _ => decide (n = a)
  | .run f l => decide (f ≤ n) && decide (n ≤ f + l.length - 1)
/-- Within bounds: nothing goes round. -/
def Part.ok : Part → Prop
  | .ground a _ _ => 0 ≤ a ∧ a ≤ 1099511627776
  | .run f l => 0 ≤ f ∧ f ≤ 2199023255552 ∧ 0 < l.length ∧ l.length ≤ 4096
def PartV (S : Nat → Prop) (w : World) (v : Value) : Part → Prop
  | .ground a t m => v = .iface 97 (.agg #[.int .i64 a, .int .i64 t, .int .i64 m])
  | .run f l => ∃ sv, v = .iface 92 (.agg #[.int .i64 f, sv]) ∧ Ents S w sv l
theorem PartV.keepS {S : Nat → Prop} {w w' : World} {v : Value} {p : Part} (h : PartV S w v p) (hs : Same S w w') : PartV S w' v p := by
  cases p with
  | ground a t m => exact h
  | run f l => obtain ⟨sv, hv, he⟩ := h; exact ⟨sv, hv, he.keepS hs⟩
theorem PartV.keep {S : Nat → Prop} {w w' : World} {v : Value} {p : Part} (h : PartV S w v p) (hb : Below w.heap.size w w') : PartV S w' v p := h.keepS (Same.of_below' hb S)
theorem PartV.mono {S T : Nat → Prop} {w : World} {v : Value} {p : Part} (h : PartV S w v p) (hT : ∀ b, b < w.heap.size → S b → T b) : PartV T w v p := by
  cases p with
  | ground a t m => exact h
  | run f l => obtain ⟨sv, hv, he⟩ := h; exact ⟨sv, hv, he.mono hT⟩
def PartCells (S : Nat → Prop) (w : World) : List Part → List Value → Prop
  | [], vs => vs = []
  | p :: ps, vs => ∃ v vs', vs = v :: vs' ∧ PartV S w v p ∧ PartCells S w ps vs'
theorem PartCells.keepS {S : Nat → Prop} {w w' : World} (hs : Same S w w') : ∀ {ps : List Part} {vs : List Value}, PartCells S w ps vs → PartCells S w' ps vs
  | [], _, h => h
  | _ :: _, _, ⟨v, vs', hc, hv, hr⟩ => ⟨v, vs', hc, hv.keepS hs, PartCells.keepS hs hr⟩
theorem PartCells.mono {S T : Nat → Prop} {w : World} (hT : ∀ b, b < w.heap.size → S b → T b) : ∀ {ps : List Part} {vs : List Value}, PartCells S w ps vs → PartCells T w ps vs
  | [], _, h => h
  | _ :: _, _, ⟨v, vs', hc, hv, hr⟩ => ⟨v, vs', hc, hv.mono hT, PartCells.mono hT hr⟩
theorem PartCells.length {S : Nat → Prop} {w : World} : ∀ {ps : List Part} {vs : List Value}, PartCells S w ps vs → vs.length = ps.length
  | [], _, h => by cases h; rfl
  | _ :: _, _, ⟨v, vs', hc, _, hr⟩ => by have := PartCells.length hr; subst hc; simp [this]
theorem PartCells.at {S : Nat → Prop} {w : World} : ∀ {ps : List Part} {vs : List Value}, PartCells S w ps vs → ∀ i (h : i < ps.length), ∃ v, vs[i]? = some v ∧ PartV S w v ps[i]
  | [], _, _, i, h => by simp at h
  | p :: ps, _, ⟨v, vs', hc, hv, hr⟩, 0, h => ⟨v, by simp [hc], hv⟩
  | p :: ps, _, ⟨v, vs', hc, hv, hr⟩, i + 1, h => by
    obtain ⟨u, hu, hp⟩ := PartCells.at hr i (by simpa using h)
    exact ⟨u, by simpa [hc] using hu, by simpa using hp⟩
theorem PartCells.append {S : Nat → Prop} {w : World} : ∀ {ps qs : List Part} {vs us : List Value}, PartCells S w ps vs → PartCells S w qs us → PartCells S w (ps ++ qs) (vs ++ us)
  | [], _, _, _, h, k => by cases h; exact k
  | _ :: _, _, _, _, ⟨v, vs', hc, hv, hr⟩, k => ⟨v, vs' ++ _, by subst hc; rfl, hv, PartCells.append hr k⟩
theorem PartCells.take {S : Nat → Prop} {w : World} : ∀ {ps : List Part} {vs : List Value} (k : Nat), PartCells S w ps vs → PartCells S w (ps.take k) (vs.take k)
  | _, _, 0, _ => by simp [PartCells]
  | [], _, k + 1, h => by cases h; simp [PartCells]
  | _ :: _, _, k + 1, ⟨v, vs', hc, hv, hr⟩ => by subst hc; exact ⟨v, vs'.take k, by simp, hv, PartCells.take k hr⟩
theorem PartCells.drop {S : Nat → Prop} {w : World} : ∀ {ps : List Part} {vs : List Value} (k : Nat), PartCells S w ps vs → PartCells S w (ps.drop k) (vs.drop k)
  | _, _, 0, h => by simpa using h
  | [], _, k + 1, h => by cases h; simp [PartCells]
  | _ :: _, _, k + 1, ⟨v, vs', hc, hv, hr⟩ => by subst hc; simpa using PartCells.drop k hr
theorem PartV.one {S : Nat → Prop} {w : World} {v : Value} {p : Part} (h : PartV S w v p) : v.oneCell' = true := by
  cases p with
  | ground a t m => cases h; rfl
  | run f l => obtain ⟨sv, rfl, _⟩ := h; rfl
theorem PartCells.one {S : Nat → Prop} {w : World} : ∀ {ps : List Part} {vs : List Value}, PartCells S w ps vs → ∀ u ∈ vs, u.oneCell' = true
  | [], _, h => by cases h; simp
  | _ :: _, _, ⟨v, vs', hc, hv, hr⟩ => by
    subst hc
    intro u hu
    rcases List.mem_cons.1 hu with rfl | hu
    · exact hv.one
    · exact PartCells.one hr u hu

/-- A log: a pointer to its parts. -/
def LogAt (S : Nat → Prop) (w : World) (v : Value) (ps : List Part) : Prop :=
  ∃ b sv vs, v = .pointer (some ⟨b, 0, none⟩) ∧ S b ∧ w.cell? ⟨b, 0, none⟩ = some sv ∧ RowAt S w sv ps.length 1 vs ∧ PartCells S w ps vs
theorem LogAt.keepS {S : Nat → Prop} {w w' : World} {v : Value} {ps : List Part} (h : LogAt S w v ps) (hs : Same S w w') : LogAt S w' v ps := by
  obtain ⟨b, sv, vs, hv, hb, hc, hr, hp⟩ := h
  exact ⟨b, sv, vs, hv, hb, hs.cell (p := ⟨b, 0, none⟩) hb hc, hr.keepS hs, hp.keepS hs⟩
theorem LogAt.keep {S : Nat → Prop} {w w' : World} {v : Value} {ps : List Part} (h : LogAt S w v ps) (hb : Below w.heap.size w w') : LogAt S w' v ps := h.keepS (Same.of_below' hb S)
theorem LogAt.mono {S T : Nat → Prop} {w : World} {v : Value} {ps : List Part} (h : LogAt S w v ps) (hT : ∀ b, b < w.heap.size → S b → T b) : LogAt T w v ps := by
  obtain ⟨b, sv, vs, hv, hb, hc, hr, hp⟩ := h
  exact ⟨b, sv, vs, hv, hT b (block_lt hc) hb, hc, hr.mono hT, hp.mono hT⟩

theorem last_ground (a t m : Int) (w : World) :
    Calls Try.prog 127 #[.agg #[.int .i64 a, .int .i64 t, .int .i64 m]] w fun e w' => e = .returned (.tuple #[.int .i64 a, .int .i64 t]) ∧ Below w.heap.size w w' := by
  go_enter Try.func127, Try.ntmps127
  go_wp2
  go_quiet (fail)
  go_wp2
  go_ret2
  exact ⟨rfl, below_drewN (box_below _ _) _⟩
theorem last_run (f t : Int) (b o n c : Nat) (w : World) (h : w.cell? ⟨b, o + 1, none⟩ = some (.int .i64 t)) (hn : 0 < n) (hn' : n ≤ 4096) (h0 : 0 ≤ f) (h1 : f ≤ 2199023255552) :
    Calls Try.prog 126 #[.agg #[.int .i64 f, .slice (some ⟨b, o, none⟩) n c]] w fun e w' => e = .returned (.tuple #[.int .i64 (f + n - 1), .int .i64 t]) ∧ Below w.heap.size w w' := by
  have h' := fun o' => cell_keep (box_below w o') h
  have hn2 : (0 : Int) < (n : Int) := by omega
  go_enter Try.func126, Try.ntmps126
  go_wp2
  go_quiet (fail)
  go_wp2
  go_ret2
  exact ⟨rfl, below_drewN (box_below _ _) _⟩

theorem method_ground (n : Nat) (v : Value) (w : World) : (method (n + 1) 97 v "caisson/entries.last").run Try.prog w = .ok (127, v) w := by kernel_rfl
theorem method_run (n : Nat) (v : Value) (w : World) : (method (n + 1) 92 v "caisson/entries.last").run Try.prog w = .ok (126, v) w := by kernel_rfl
theorem ahead_ground (n : Nat) (v : Value) (w : World) : (nilAhead (n + 1) 97 v "caisson/entries.last").run Try.prog w = .ok (some false) w := by kernel_rfl
theorem ahead_run (n : Nat) (v : Value) (w : World) : (nilAhead (n + 1) 92 v "caisson/entries.last").run Try.prog w = .ok (some false) w := by kernel_rfl
theorem assert_gg (v : Value) (w : World) : (Instr.typeAssert (.iface 97 v) 82 97 true).run Try.prog w = .ok (.tuple #[v, .bool true]) w := by kernel_rfl
theorem assert_rr (v : Value) (w : World) : (Instr.typeAssert (.iface 92 v) 82 92 true).run Try.prog w = .ok (.tuple #[v, .bool true]) w := by kernel_rfl
theorem assert_gr (v : Value) (w : World) : (Instr.typeAssert (.iface 97 v) 82 92 true).run Try.prog w = .ok (.tuple #[.agg #[.int .i64 0, .slice none 0 0], .bool false]) w := by kernel_rfl
theorem assert_rg (v : Value) (w : World) : (Instr.typeAssert (.iface 92 v) 82 97 true).run Try.prog w = .ok (.tuple #[.agg #[.int .i64 0, .int .i64 0, .int .i64 0], .bool false]) w := by kernel_rfl
theorem assert_nr (w : World) : (Instr.typeAssert .nilIface 82 92 true).run Try.prog w = .ok (.tuple #[.agg #[.int .i64 0, .slice none 0 0], .bool false]) w := by kernel_rfl
attribute [go_sem] method_ground method_run ahead_ground ahead_run assert_gg assert_rr assert_gr assert_rg assert_nr
end Go.Proofs.Ytoaoldhajpbenaa

namespace Go.Proofs.Ytoaoldhajpbenaa
open Go.RowKit

structure Msg where
  kind : Int
  src : Int
  dst : Int
  term : Int
  at_ : Int
  atTerm : Int
  commit : Int
  round : Int
  yes : Bool
  l : List Ent
  data : List UInt8

/-- The cells of a message, its entries at vl, its data at vd. -/
def msgCells (m : Msg) (vl vd : Value) : List Value :=
  [.int .i64 m.kind, .int .i64 m.src, .int .i64 m.dst, .int .i64 m.term, .int .i64 m.at_, .int .i64 m.atTerm, .int .i64 m.commit, .int .i64 m.round, .bool m.yes, vl, vd]
def MsgAt (S : Nat → Prop) (w : World) (m : Msg) (vl vd : Value) : Prop :=
  Ents S w vl m.l ∧ Bytes S w vd m.data ∧ (in64 m.kind ∧ in64 m.src ∧ in64 m.dst ∧ in64 m.term ∧ in64 m.at_ ∧ in64 m.atTerm ∧ in64 m.commit ∧ in64 m.round)
theorem MsgAt.keepS {S : Nat → Prop} {w w' : World} {m : Msg} {vl vd : Value} (h : MsgAt S w m vl vd) (hs : Same S w w') : MsgAt S w' m vl vd := ⟨h.1.keepS hs, h.2.1.keepS hs, h.2.2⟩
theorem MsgAt.keep {S : Nat → Prop} {w w' : World} {m : Msg} {vl vd : Value} (h : MsgAt S w m vl vd) (hb : Below w.heap.size w w') : MsgAt S w' m vl vd := ⟨h.1.keep hb, h.2.1.keep hb, h.2.2⟩
theorem MsgAt.mono {S T : Nat → Prop} {w : World} {m : Msg} {vl vd : Value} (h : MsgAt S w m vl vd) (hT : ∀ b, b < w.heap.size → S b → T b) : MsgAt T w m vl vd := ⟨h.1.mono hT, h.2.1.mono hT, h.2.2⟩

theorem cells11 {w : World} {b : Nat} {x0 x1 x2 x3 x4 x5 x6 x7 x8 x9 x10 : Value} {t : TypeId} (h : w.heap[b]? = some (.cells #[x0, x1, x2, x3, x4, x5, x6, x7, x8, x9, x10] t (0, 0))) :
    (w.cell? ⟨b, 0, none⟩ = some x0 ∧ w.cell? ⟨b, 1, none⟩ = some x1 ∧ w.cell? ⟨b, 2, none⟩ = some x2 ∧ w.cell? ⟨b, 3, none⟩ = some x3 ∧ w.cell? ⟨b, 4, none⟩ = some x4 ∧ w.cell? ⟨b, 5, none⟩ = some x5 ∧
      w.cell? ⟨b, 6, none⟩ = some x6 ∧ w.cell? ⟨b, 7, none⟩ = some x7 ∧ w.cell? ⟨b, 8, none⟩ = some x8 ∧ w.cell? ⟨b, 9, none⟩ = some x9 ∧ w.cell? ⟨b, 10, none⟩ = some x10) ∧
    ∀ k, w.frozen? ⟨b, k, none⟩ = false ∨ 11 ≤ k := by
  refine ⟨by simp [World.cell?, h], fun k => ?_⟩
  by_cases hk : k < 11
  · left; simp [World.frozen?, h]
  · right; omega

/-- Nothing in it is longer than memory. -/
def Fine (m : Msg) : Prop := m.data.length ≤ 140737488355328 ∧ ∀ e ∈ m.l, e.cmd.length ≤ 140737488355328

def entsSize (l : List Ent) : Nat := (l.map fun e => 9 + e.cmd.length).sum
def msgSize (m : Msg) : Nat := 45 + m.data.length + entsSize m.l
def longB (m : Msg) : Bool := decide (4096 < m.l.length) || decide (65536 < m.data.length) || decide (65536 < msgSize m)
theorem entsSize_snoc (l : List Ent) (e : Ent) : entsSize (l ++ [e]) = entsSize l + (9 + e.cmd.length) := by simp [entsSize]
theorem entsSize_take_le (l : List Ent) (k : Nat) : entsSize (l.take k) ≤ entsSize l := by
  have h := congrArg entsSize (List.take_append_drop k l)
  have e : entsSize (l.take k ++ l.drop k) = entsSize (l.take k) + entsSize (l.drop k) := by
    unfold entsSize
    rw [List.map_append, List.sum_append]
  omega

theorem ret_bool {a b : Bool} (h : a = b) : Ending.returned (.bool a) = .returned (.bool b) := by rw [h]

set_option maxRecDepth 100000 in
set_option maxHeartbeats 4000000 in
theorem long_any {S : Nat → Prop} (m : Msg) (vl vd : Value) (w : World) (hm : MsgAt S w m vl vd) (hf : Fine m) :
    Calls Try.prog 63 #[.agg (msgCells m vl vd).toArray] w fun e w' => e = .returned (.bool (longB m)) ∧ Below w.heap.size w w' := by
  obtain ⟨hE, hD, -⟩ := hm
  obtain ⟨k0, k1, k2, k3, k4, k5, k6, k7, yes, l, data⟩ := m
  simp only [msgCells] at hE hD ⊢
  obtain ⟨A, cA, rfl⟩ := hE.slice
  obtain ⟨B, cB, rfl⟩ := hD.slice
  have HE := Lib.hid hE
  have HF := Lib.hid hf.2
  clear hE hD hf
  by_cases h1 : l.length > 4096
  · have e : longB ⟨k0, k1, k2, k3, k4, k5, k6, k7, yes, l, data⟩ = true := by simp [longB, h1]
    rw [e]
    have h1' : (4096 : Int) < l.length := by omega
    clear e
    go_enter Try.func63, Try.ntmps63
    go_wp2_with fail
    go_ret
    exact ⟨rfl, box_below _ _⟩
  · by_cases h2 : data.length > 65536
    · have e : longB ⟨k0, k1, k2, k3, k4, k5, k6, k7, yes, l, data⟩ = true := by simp [longB, h2]
      rw [e]
      have h1' : ¬ ((4096 : Int) < l.length) := by omega
      obtain ⟨D, hD⟩ : ∃ D : Int, D = data.length := ⟨_, rfl⟩
      have h2' : 65536 < D := by omega
      clear e
      go_enter Try.func63, Try.ntmps63
      go_wp2_with fail
      go_ret
      exact ⟨rfl, box_below _ _⟩
    · have h1' : ¬ ((4096 : Int) < l.length) := by omega
      obtain ⟨D, hD⟩ : ∃ D : Int, D = data.length := ⟨_, rfl⟩
      have h2' : ¬ (65536 < D) := by omega
      have hel : longB ⟨k0, k1, k2, k3, k4, k5, k6, k7, yes, l, data⟩ = decide (65536 < 45 + data.length + entsSize l) := by
        have a : decide (4096 < l.length) = false := by simpa using h1
        have b : decide (65536 < data.length) = false := by simpa using h2
        show (decide (4096 < l.length) || decide (65536 < data.length) || decide (65536 < 45 + data.length + entsSize l)) = _
        rw [a, b]
        rfl
      rw [hel]
      have hD0 : 0 ≤ D := by omega
      have HD := Lib.hid hD
      clear hel
      go_enter Try.func63, Try.ntmps63
      go_wp2_with fail
      go_loopw [3, 23] (fun s3 s23 wr => ∃ (k : Nat) (Z : Int), k ≤ l.length ∧ s23 = .int .i64 k ∧ s3 = .int .i64 Z ∧ Hid (Z = 45 + data.length + entsSize (l.take k)) ∧ 0 ≤ Z ∧ Z ≤ 65581 ∧ Below w.heap.size w wr) (fun _ s23 _ => l.length - (intOf s23).toNat)
      case atStart => exact ⟨0, 45 + data.length, Nat.zero_le _, rfl, rfl, Lib.hid (by simp [entsSize]), by omega, by omega, box_below _ _⟩
      case round =>
        obtain ⟨k, Z, hk, rfl, rfl, HZ, z0, z1, hb⟩ := hrel
        by_cases hlt : k < l.length
        · obtain ⟨cs, hr, he⟩ := HE.out
          obtain ⟨ab, ao, ac, hv, hn, hc, -, hab, hcell⟩ := hr.form (by omega)
          injection hv with hv1 _ hv3
          subst hv1 hv3
          obtain ⟨ev, a0, a1, a2, -, -, hy⟩ := he.at k hlt
          have x0 := cell_keep hb (hcell _ _ a0)
          have x1 := cell_keep hb (hcell _ _ a1)
          have x2 := cell_keep hb (hcell _ _ a2)
          rw [← Nat.add_assoc] at x1 x2
          obtain ⟨AE, cE, rfl⟩ := hy.slice
          have hlt2 : (k : Int) < (l.length : Int) := by omega
          have hsn : l.take (k + 1) = l.take k ++ [l[k]] := by rw [List.take_succ_eq_append_getElem hlt]
          have hen := entsSize_snoc (l.take k) l[k]
          rw [← hsn] at hen
          have hle : l[k].cmd.length ≤ 140737488355328 := HF.out _ (List.getElem_mem hlt)
          unfold maxLen at hc
          obtain ⟨C, hC⟩ : ∃ C : Int, C = l[k].cmd.length := ⟨_, rfl⟩
          have c0 : 0 ≤ C := by omega
          have c1 : C ≤ 140737488355328 := by omega
          have HC := Lib.hid (And.intro hC (And.intro hen (entsSize_take_le l (k + 1))))
          have hb2 := below_alloc hb (.cells #[.int .i64 l[k].kind, .int .i64 l[k].term, .slice AE l[k].cmd.length cE] 33)
          have HB2 := Lib.hid hb2
          generalize l[k].cmd.length = cl at *
          clear hen hsn hcell a0 a1 a2 hr he hy hb hb2
          go_wp2_with fail
          · rename_i hbig
            go_ret
            refine ⟨?_, HB2.out⟩
            have h1 := HC.out
            have h2 := HZ.out
            have : decide (65536 < 45 + data.length + entsSize l) = true := by simp; omega
            rw [this]
            rfl
          · go_roundw
            case rel => exact ⟨k + 1, Z + (9 + C), hlt, by go_num, by rw [HC.out.1], Lib.hid (by have := HC.out; have := HZ.out; omega), by omega, by omega, HB2.out⟩
            case measure => simp [intOf]; omega
        · obtain rfl : k = l.length := by omega
          have hz := HZ.out
          rw [List.take_length] at hz
          have Hz := Lib.hid hz
          clear hz
          go_wp2_with fail
          go_ret
          exact ⟨ret_bool (decide_eq_decide.2 (by have := Hz.out; omega)), hb⟩
end Go.Proofs.Ytoaoldhajpbenaa

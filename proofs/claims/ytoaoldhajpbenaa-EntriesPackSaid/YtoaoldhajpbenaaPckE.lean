/- Entries as bytes, there and back: plain law. No statement is proved here. -/
import Derived.Test.YtoaoldhajpbenaaPckD
namespace Go.Proofs.Ytoaoldhajpbenaa
open Go.RowKit

theorem foldl_val (l : List UInt8) : ∀ a : Nat, l.foldl (fun a b => a * 256 + b.toNat) a = a * 256 ^ l.length + beVal l := by
  induction l with
  | nil => intro a; simp [beVal]
  | cons x l ih =>
    intro a
    have h1 := ih (a * 256 + x.toNat)
    have h2 := ih (0 * 256 + x.toNat)
    show l.foldl _ (a * 256 + x.toNat) = _
    have e : beVal (x :: l) = l.foldl (fun a b => a * 256 + b.toNat) (0 * 256 + x.toNat) := rfl
    rw [h1, e, h2, List.length_cons, Nat.pow_succ, Nat.zero_mul, Nat.zero_add, Nat.add_mul, Nat.mul_assoc a 256, Nat.mul_comm 256 (256 ^ l.length), Nat.add_assoc]
theorem beVal_cons (x : UInt8) (l : List UInt8) : beVal (x :: l) = x.toNat * 256 ^ l.length + beVal l := by
  have := foldl_val l (0 * 256 + x.toNat)
  show l.foldl (fun a b => a * 256 + b.toNat) (0 * 256 + x.toNat) = _
  rw [this, Nat.zero_mul, Nat.zero_add]
theorem byteOf_add (a n i k : Nat) (h : i < k) : byteOf (a * 256 ^ k + n) i = byteOf n i := by
  unfold byteOf
  apply UInt8.toNat_inj.1
  show (a * 256 ^ k + n) / 256 ^ i % 256 = n / 256 ^ i % 256
  obtain ⟨d, rfl⟩ : ∃ d, k = i + 1 + d := ⟨k - i - 1, by omega⟩
  have hp : 0 < 256 ^ i := Nat.pow_pos (by omega)
  have e : a * 256 ^ (i + 1 + d) = (a * 256 ^ d * 256) * 256 ^ i := by
    rw [show i + 1 + d = d + 1 + i by omega, Nat.pow_add, Nat.pow_add, Nat.pow_one]
    rw [Nat.mul_assoc (a * 256 ^ d), ← Nat.mul_assoc a, ← Nat.mul_assoc a, Nat.mul_assoc (a * 256 ^ d)]
  rw [e, Nat.add_comm, Nat.add_mul_div_right _ _ hp]
  omega
theorem be_add (a n : Nat) : ∀ (j k : Nat), j ≤ k → be j (a * 256 ^ k + n) = be j n
  | 0, _, _ => rfl
  | j + 1, k, h => by
    show byteOf _ j :: be j _ = byteOf n j :: be j n
    rw [byteOf_add a n j k (by omega), be_add a n j k (by omega)]
theorem be_beVal : ∀ l : List UInt8, be l.length (beVal l) = l
  | [] => rfl
  | x :: l => by
    rw [List.length_cons, beVal_cons]
    show byteOf _ l.length :: be l.length _ = _
    rw [be_add _ _ _ _ (Nat.le_refl _), be_beVal l]
    congr 1
    unfold byteOf
    apply UInt8.toNat_inj.1
    show (x.toNat * 256 ^ l.length + beVal l) / 256 ^ l.length % 256 = x.toNat
    have hp : 0 < 256 ^ l.length := Nat.pow_pos (by omega)
    have hx := x.toNat_lt
    rw [Nat.add_comm, Nat.add_mul_div_right _ _ hp, Nat.div_eq_of_lt (beVal_lt l)]
    omega
theorem beVal_be (k n : Nat) (h : n < 256 ^ k) : beVal (be k n) = n := by
  have h1 := be_beVal (be k n)
  rw [be_length] at h1
  have key : ∀ k a b, a < 256 ^ k → b < 256 ^ k → be k a = be k b → a = b := by
    intro k
    induction k with
    | zero => intro a b ha hb _; simp at ha hb; omega
    | succ k ih =>
      intro a b ha hb he
      have hp : 0 < 256 ^ k := Nat.pow_pos (by omega)
      have e1 : byteOf a k = byteOf b k := by injection he
      have e2 : be k a = be k b := by injection he
      have q : a / 256 ^ k = b / 256 ^ k := by
        have := congrArg UInt8.toNat e1
        have h2 : a / 256 ^ k % 256 = b / 256 ^ k % 256 := this
        rw [Nat.pow_succ] at ha hb
        have ha' : a / 256 ^ k < 256 := Nat.div_lt_of_lt_mul ha
        have hb' : b / 256 ^ k < 256 := Nat.div_lt_of_lt_mul hb
        generalize a / 256 ^ k = x at *
        generalize b / 256 ^ k = y at *
        omega
      have ra : a = (a / 256 ^ k) * 256 ^ k + a % 256 ^ k := by rw [Nat.mul_comm]; exact (Nat.div_add_mod a _).symm
      have rb : b = (b / 256 ^ k) * 256 ^ k + b % 256 ^ k := by rw [Nat.mul_comm]; exact (Nat.div_add_mod b _).symm
      have e3 : be k (a % 256 ^ k) = be k (b % 256 ^ k) := by
        have a1 := be_add (a / 256 ^ k) (a % 256 ^ k) k k (Nat.le_refl _)
        have b1 := be_add (b / 256 ^ k) (b % 256 ^ k) k k (Nat.le_refl _)
        rw [← ra] at a1
        rw [← rb] at b1
        rw [← a1, ← b1, e2]
      have := ih _ _ (Nat.mod_lt a hp) (Nat.mod_lt b hp) e3
      rw [ra, rb, q, this]
  exact key k _ _ (by have := beVal_lt (be k n); rwa [be_length] at this) h h1

/-! Reading back what was written. -/
theorem rdNum_be (size n : Nat) (rest : List UInt8) (h : n < 256 ^ size) : rdNum size (be size n ++ rest, 0) = ((n : Int), (rest, 0)) := by
  unfold rdNum
  rw [if_neg (by simp), if_neg (by simp [be_length])]
  have hl := be_length size n
  have e1 : (be size n ++ rest).take size = be size n := by
    rw [List.take_append_of_le_length (by omega), List.take_of_length_le (by omega)]
  have e2 : (be size n ++ rest).drop size = rest := by
    rw [List.drop_append_of_le_length (by omega), List.drop_of_length_le (by omega), List.nil_append]
  show (((beVal ((be size n ++ rest).take size) : Nat) : Int), ((be size n ++ rest).drop size, (0 : Int))) = _
  rw [e1, e2, beVal_be size n h]
theorem cutOf_be (size : Nat) (p rest : List UInt8) (h : p.length < 256 ^ size) (h2 : p.length ≤ 65536) : cutOf size (be size p.length ++ p ++ rest) = (p, size + p.length, 0) := by
  unfold cutOf
  have hl := be_length size p.length
  have e1 : (be size p.length ++ p ++ rest).take size = be size p.length := by
    rw [List.append_assoc, List.take_append_of_le_length (by omega), List.take_of_length_le (by omega)]
  have e2 : (be size p.length ++ p ++ rest).drop size = p ++ rest := by
    rw [List.append_assoc, List.drop_append_of_le_length (by omega), List.drop_of_length_le (by omega), List.nil_append]
  rw [e1, e2, beVal_be _ _ h, if_neg (by simp [hl]), if_neg (by omega), if_neg (by simp [hl])]
  simp
theorem rdBytes_be (size : Nat) (p rest : List UInt8) (h : p.length < 256 ^ size) (h2 : p.length ≤ 65536) : rdBytes size (be size p.length ++ p ++ rest, 0) = (p, (rest, 0)) := by
  unfold rdBytes
  rw [if_neg (by simp)]
  have e := cutOf_be size p rest h h2
  have hl := be_length size p.length
  show (if (cutOf size (be size p.length ++ p ++ rest)).2.2 ≠ 0 then _ else _) = _
  rw [e, if_neg (by simp)]
  show (p, ((be size p.length ++ p ++ rest).drop (size + p.length), (0 : Int))) = _
  have e2 : (be size p.length ++ p ++ rest).drop (size + p.length) = rest := by
    rw [List.drop_append_of_le_length (by simp [hl]), List.drop_of_length_le (by simp [hl]), List.nil_append]
  rw [e2]
theorem rdEnt_enc (e : Ent) (rest : List UInt8) (h : rightB e = true) : rdEnt (encE e ++ rest, 0) = (e, (rest, 0)) := by
  obtain ⟨k0, k2, t1, t2, cl⟩ := rightB_facts h
  have e1 : encE e ++ rest = be 1 (e.kind + 64).toNat ++ (be 6 e.term.toNat ++ (be 2 e.cmd.length ++ e.cmd ++ rest)) := by simp [encE, List.append_assoc]
  have e2 := rdNum_be 1 (e.kind + 64).toNat (be 6 e.term.toNat ++ (be 2 e.cmd.length ++ e.cmd ++ rest)) (by omega)
  have e3 := rdNum_be 6 e.term.toNat (be 2 e.cmd.length ++ e.cmd ++ rest) (by omega)
  have e4 := rdBytes_be 2 e.cmd rest (by omega) (by omega)
  unfold rdEnt
  rw [e1, e2]
  simp only []
  rw [e3]
  simp only []
  rw [e4]
  obtain ⟨k, t, c⟩ := e
  simp only at k0 t1 ⊢
  congr 2
  · omega
  · omega
theorem unp_enc (e : Ent) (h : rightB e = true) : unpOf (encE e) = (e, 0) := by
  have := rdEnt_enc e [] h
  rw [List.append_nil] at this
  unfold unpOf
  rw [this]
  simp [endOf, h]

theorem rdNum_inv (size : Nat) (st : List UInt8 × Int) (h : (rdNum size st).2.2 = 0) : st.2 = 0 ∧ st.1 = be size (rdNum size st).1.toNat ++ (rdNum size st).2.1 := by
  unfold rdNum at *
  by_cases he : st.2 ≠ 0
  · rw [if_pos he] at h; exact absurd h he
  · rw [if_neg he] at h ⊢
    by_cases hl : st.1.length < size
    · rw [if_pos hl] at h; simp at h
    · rw [if_neg hl]
      refine ⟨by omega, ?_⟩
      show st.1 = be size ((beVal (st.1.take size) : Nat) : Int).toNat ++ st.1.drop size
      have := be_beVal (st.1.take size)
      rw [List.length_take, Nat.min_eq_left (by omega)] at this
      rw [Int.toNat_natCast, this, List.take_append_drop]
theorem rdBytes_inv (size : Nat) (st : List UInt8 × Int) (h : (rdBytes size st).2.2 = 0) : st.2 = 0 ∧ st.1 = be size (rdBytes size st).1.length ++ (rdBytes size st).1 ++ (rdBytes size st).2.1 := by
  unfold rdBytes at *
  by_cases he : st.2 ≠ 0
  · rw [if_pos he] at h; exact absurd h he
  · rw [if_neg he] at h ⊢
    by_cases hc : (cutOf size st.1).2.2 ≠ 0
    · rw [if_pos hc] at h; exact absurd h hc
    · rw [if_neg hc]
      refine ⟨by omega, ?_⟩
      show st.1 = be size (cutOf size st.1).1.length ++ (cutOf size st.1).1 ++ st.1.drop (cutOf size st.1).2.1
      have hc0 : (cutOf size st.1).2.2 = 0 := by omega
      clear h hc
      unfold cutOf at *
      by_cases h1 : st.1.length < size
      · rw [if_pos h1] at hc0; exact absurd hc0 (by decide)
      · rw [if_neg h1] at hc0 ⊢
        by_cases h2 : beVal (st.1.take size) > 65536
        · rw [if_pos h2] at hc0; exact absurd hc0 (by decide)
        · rw [if_neg h2] at hc0 ⊢
          by_cases h3 : st.1.length - size < beVal (st.1.take size)
          · rw [if_pos h3] at hc0; exact absurd hc0 (by decide)
          · rw [if_neg h3]
            show st.1 = be size ((st.1.drop size).take (beVal (st.1.take size))).length ++ (st.1.drop size).take (beVal (st.1.take size)) ++ st.1.drop (size + beVal (st.1.take size))
            have hlen : ((st.1.drop size).take (beVal (st.1.take size))).length = beVal (st.1.take size) := by simp; omega
            have hb := be_beVal (st.1.take size)
            rw [List.length_take, Nat.min_eq_left (by omega)] at hb
            rw [hlen, hb, List.append_assoc, ← List.drop_drop, List.take_append_drop, List.take_append_drop]
theorem rdEnt_inv (st : List UInt8 × Int) (h : (rdEnt st).2.2 = 0) : st.2 = 0 ∧ st.1 = encE (rdEnt st).1 ++ (rdEnt st).2.1 := by
  obtain ⟨h3, e3⟩ := rdBytes_inv 2 _ h
  obtain ⟨h2, e2⟩ := rdNum_inv 6 _ h3
  obtain ⟨h1, e1⟩ := rdNum_inv 1 _ h2
  refine ⟨h1, ?_⟩
  have ek : ((rdEnt st).1.kind + 64).toNat = (rdNum 1 st).1.toNat := by
    show ((rdNum 1 st).1 - 64 + 64).toNat = _
    rw [Int.sub_add_cancel]
  unfold encE
  rw [ek]
  show st.1 = be 1 (rdNum 1 st).1.toNat ++ be 6 (rdNum 6 (rdNum 1 st).2).1.toNat ++ be 2 (rdBytes 2 (rdNum 6 (rdNum 1 st).2).2).1.length ++ (rdBytes 2 (rdNum 6 (rdNum 1 st).2).2).1 ++ (rdBytes 2 (rdNum 6 (rdNum 1 st).2).2).2.1
  rw [List.append_assoc, List.append_assoc, List.append_assoc]
  rw [← List.append_assoc (be 2 _), ← e3, ← e2, ← e1]
theorem unp_inv (xs : List UInt8) (h : (unpOf xs).2 = 0) : rightB (unpOf xs).1 = true ∧ encE (unpOf xs).1 = xs := by
  unfold unpOf at *
  by_cases he : endOf (rdEnt (xs, 0)).2.1 (rdEnt (xs, 0)).2.2 ≠ 0
  · rw [if_pos he] at h; exact absurd h he
  · rw [if_neg he] at h ⊢
    by_cases hr : rightB (rdEnt (xs, 0)).1 = true
    · rw [if_pos hr] at h ⊢
      refine ⟨hr, ?_⟩
      have he0 : endOf (rdEnt (xs, 0)).2.1 (rdEnt (xs, 0)).2.2 = 0 := by omega
      unfold endOf at he0
      by_cases h0 : (rdEnt (xs, 0)).2.2 = 0
      · rw [if_pos h0] at he0
        by_cases hl : (rdEnt (xs, 0)).2.1.length = 0
        · have := (rdEnt_inv (xs, 0) h0).2
          rw [List.eq_nil_of_length_eq_zero hl, List.append_nil] at this
          exact this.symm
        · rw [if_neg hl] at he0; exact absurd he0 (by decide)
      · rw [if_neg h0] at he0; exact absurd he0 h0
    · rw [if_neg hr] at h; exact absurd h (by decide)
end Go.Proofs.Ytoaoldhajpbenaa

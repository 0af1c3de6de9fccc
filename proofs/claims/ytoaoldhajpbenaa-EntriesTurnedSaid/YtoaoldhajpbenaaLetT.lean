/- Turned bits change a sum: plain law. No statement is proved here. -/
import Derived.Test.YtoaoldhajpbenaaQLetA
namespace Go.Proofs.Ytoaoldhajpbenaa

theorem xor_div2 (a b k : Nat) : (a ^^^ b) / 2 ^ k = a / 2 ^ k ^^^ b / 2 ^ k := by
  have h := Nat.shiftRight_xor_distrib (a := a) (b := b) (i := k)
  simpa [Nat.shiftRight_eq_div_pow] using h
theorem xor_mul2 (a b k : Nat) : (a ^^^ b) * 2 ^ k = a * 2 ^ k ^^^ b * 2 ^ k := by
  have h := Nat.shiftLeft_xor_distrib (a := a) (b := b) (i := k)
  simpa [Nat.shiftLeft_eq] using h
theorem xor_low (a b k : Nat) (ha : a < 2 ^ k) : a ^^^ b * 2 ^ k = a + b * 2 ^ k := by
  have h1 : (a ^^^ b * 2 ^ k) / 2 ^ k = b := by
    rw [xor_div2, Nat.div_eq_of_lt ha, Nat.mul_div_cancel _ (Nat.two_pow_pos k), Nat.zero_xor]
  have h2 : (a ^^^ b * 2 ^ k) % 2 ^ k = a := by
    rw [Nat.xor_mod_two_pow, Nat.mul_mod_left, Nat.xor_zero, Nat.mod_eq_of_lt ha]
  have h3 := Nat.div_add_mod (a ^^^ b * 2 ^ k) (2 ^ k)
  rw [h1, h2, Nat.mul_comm] at h3
  omega

theorem crcT_two (a c : Nat) : crcT (a ^^^ c * 2) = crcT a ^^^ c := by
  rw [crcT_xor]
  have h1 : (a ^^^ c * 2) % 2 = a % 2 := by
    have h := Nat.xor_mod_two_pow (a := a) (b := c * 2) (n := 1)
    rw [Nat.pow_one, Nat.mul_mod_left, Nat.xor_zero] at h
    exact h
  rw [h1, Nat.mul_div_cancel _ (by decide : 0 < 2)]
  rfl
theorem crcN_high : ∀ (n a b : Nat), crcN n (a ^^^ b * 2 ^ n) = crcN n a ^^^ b
  | 0, a, b => by rw [Nat.pow_zero, Nat.mul_one]; rfl
  | n + 1, a, b => by
    show crcN n (crcT (a ^^^ b * 2 ^ (n + 1))) = crcN n (crcT a) ^^^ b
    rw [Nat.pow_succ, ← Nat.mul_assoc, crcT_two, crcN_high n]
theorem crcN_add : ∀ (m n r : Nat), crcN (m + n) r = crcN n (crcN m r)
  | 0, n, r => by rw [Nat.zero_add]; rfl
  | m + 1, n, r => by
    rw [show m + 1 + n = (m + n) + 1 by omega]
    exact crcN_add m n (crcT r)
theorem crcT_lin (a b : Nat) : crcT (a ^^^ b) = crcT a ^^^ crcT b := by
  unfold crcT
  have h2 : (a ^^^ b) % 2 = a % 2 ^^^ b % 2 := by
    have h := Nat.xor_mod_two_pow (a := a) (b := b) (n := 1)
    rwa [Nat.pow_one] at h
  rw [xor_half, h2]
  have ha : a % 2 = 0 ∨ a % 2 = 1 := by omega
  have hb : b % 2 = 0 ∨ b % 2 = 1 := by omega
  generalize a / 2 = x
  generalize b / 2 = y
  rcases ha with ha | ha <;> rcases hb with hb | hb <;> rw [ha, hb]
  · show x ^^^ y ^^^ 0 = (x ^^^ 0) ^^^ (y ^^^ 0)
    simp
  · show x ^^^ y ^^^ 2197175160 = (x ^^^ 0) ^^^ (y ^^^ 2197175160)
    rw [Nat.xor_zero, Nat.xor_assoc]
  · show x ^^^ y ^^^ 2197175160 = (x ^^^ 2197175160) ^^^ (y ^^^ 0)
    rw [Nat.xor_zero, Nat.xor_assoc, Nat.xor_comm y, ← Nat.xor_assoc]
  · show x ^^^ y ^^^ 0 = (x ^^^ 2197175160) ^^^ (y ^^^ 2197175160)
    rw [Nat.xor_zero, Nat.xor_assoc, Nat.xor_comm y, ← Nat.xor_assoc 2197175160, Nat.xor_self, Nat.zero_xor]
theorem crcN_lin : ∀ (n a b : Nat), crcN n (a ^^^ b) = crcN n a ^^^ crcN n b
  | 0, _, _ => rfl
  | n + 1, a, b => by
    show crcN n (crcT (a ^^^ b)) = crcN n (crcT a) ^^^ crcN n (crcT b)
    rw [crcT_lin, crcN_lin n]
theorem crcT_pos (r : Nat) (h : r < 4294967296) (h0 : r ≠ 0) : crcT r ≠ 0 := by
  unfold crcT
  by_cases hr : r % 2 = 1
  · rw [if_pos hr]
    intro h1
    have h2 := Nat.xor_div_two_pow (a := r / 2) (b := 2197175160) (n := 31)
    rw [h1] at h2
    have h3 : r / 2 / 2 ^ 31 = 0 := by omega
    rw [h3] at h2
    revert h2
    decide
  · rw [if_neg hr, Nat.xor_zero]
    omega
theorem crcN_pos : ∀ (n r : Nat), r < 4294967296 → r ≠ 0 → crcN n r ≠ 0
  | 0, _, _, h => h
  | n + 1, r, h, h0 => crcN_pos n _ (crcT_lt r h) (crcT_pos r h h0)

/-- The number of which bytes have the bits, the lowest first. -/
def num : List UInt8 → Nat
  | [] => 0
  | x :: l => x.toNat + num l * 256
theorem num_lt : ∀ l : List UInt8, num l < 2 ^ (8 * l.length)
  | [] => Nat.one_pos
  | x :: l => by
    have := num_lt l
    have := x.toNat_lt
    rw [List.length_cons, Nat.mul_add, Nat.pow_add]
    show x.toNat + num l * 256 < _ * 256
    omega
theorem num_append : ∀ l k : List UInt8, num (l ++ k) = num l + num k * 2 ^ (8 * l.length)
  | [], k => by simp [num]
  | x :: l, k => by
    show x.toNat + num (l ++ k) * 256 = (x.toNat + num l * 256) + _
    rw [num_append l k, List.length_cons, Nat.mul_add, Nat.pow_add, Nat.add_mul, Nat.mul_assoc, Nat.add_assoc]
theorem num_inj : ∀ l k : List UInt8, l.length = k.length → num l = num k → l = k
  | [], [], _, _ => rfl
  | x :: l, [], h, _ => by simp at h
  | [], y :: k, h, _ => by simp at h
  | x :: l, y :: k, h, hn => by
    have hn : x.toNat + num l * 256 = y.toNat + num k * 256 := hn
    have := x.toNat_lt
    have := y.toNat_lt
    have h1 : x = y := UInt8.toNat_inj.1 (by omega)
    rw [h1, num_inj l k (by simpa using h) (by omega)]
theorem num_take (l : List UInt8) (k : Nat) (hk : k ≤ l.length) : num (l.take k) = num l % 2 ^ (8 * k) ∧ num (l.drop k) = num l / 2 ^ (8 * k) := by
  have h := num_append (l.take k) (l.drop k)
  have hl := num_lt (l.take k)
  have e : (l.take k).length = k := by simp; omega
  rw [List.take_append_drop, e] at h
  rw [e] at hl
  rw [h]
  refine ⟨?_, ?_⟩
  · rw [Nat.add_mul_mod_self_right, Nat.mod_eq_of_lt hl]
  · rw [Nat.add_mul_div_right _ _ (Nat.two_pow_pos _), Nat.div_eq_of_lt hl, Nat.zero_add]
theorem num_set : ∀ (l : List UInt8) (i : Nat) (h : i < l.length) (v : UInt8), num (l.set i (l[i] ^^^ v)) = num l ^^^ v.toNat * 2 ^ (8 * i)
  | x :: l, 0, _, v => by
    have hx := x.toNat_lt
    have hv := v.toNat_lt
    show (x ^^^ v).toNat + num l * 256 = (x.toNat + num l * 256) ^^^ v.toNat * 2 ^ 0
    rw [UInt8.toNat_xor, Nat.pow_zero, Nat.mul_one]
    have e1 := xor_low x.toNat (num l) 8 (by omega)
    have e2 := xor_low (x.toNat ^^^ v.toNat) (num l) 8 (Nat.xor_lt_two_pow (by omega) (by omega))
    rw [show (256 : Nat) = 2 ^ 8 by rfl, ← e1, ← e2, Nat.xor_assoc, Nat.xor_comm v.toNat, ← Nat.xor_assoc]
  | x :: l, i + 1, h, v => by
    have hx := x.toNat_lt
    have hi : i < l.length := by simpa using h
    have ih := num_set l i hi v
    show x.toNat + num (l.set i (l[i] ^^^ v)) * 256 = (x.toNat + num l * 256) ^^^ _
    have e1 := xor_low x.toNat (num l) 8 (by omega)
    have e2 := xor_low x.toNat (num (l.set i (l[i] ^^^ v))) 8 (by omega)
    rw [show (256 : Nat) = 2 ^ 8 by rfl, ← e1, ← e2, ih, xor_mul2, ← Nat.xor_assoc, Nat.mul_assoc, ← Nat.pow_add, Nat.mul_add]

theorem crcRun_num : ∀ (l : List UInt8) (r : Nat), crcRun r l = crcN (8 * l.length) (r ^^^ num l)
  | [], r => by show r = r ^^^ 0; rw [Nat.xor_zero]
  | x :: l, r => by
    have h0 : crcRun r (x :: l) = crcRun (crcByte r x.toNat) l := rfl
    have h1 : num (x :: l) = x.toNat + num l * 2 ^ 8 := rfl
    have h2 : crcByte r x.toNat = crcN 8 (r ^^^ x.toNat) := rfl
    have h3 : 8 * (x :: l).length = 8 + 8 * l.length := by rw [List.length_cons]; omega
    rw [h0, h1, h2, h3, crcRun_num l, crcN_add, ← xor_low x.toNat (num l) 8 (by have := x.toNat_lt; omega), ← Nat.xor_assoc, crcN_high]

/-- Bits turned in a window of 32, ahead of the sum or within it, are told. -/
theorem turned_told (x c : List UInt8) (p B : Nat) (hl : c.length = x.length) (h4 : 4 ≤ x.length) (hn : num c = num x ^^^ B * 2 ^ p) (hB : B ≠ 0) (hB2 : B < 4294967296)
    (hc : B * 2 ^ p < 2 ^ (8 * (x.length - 4)) ∨ 8 * (x.length - 4) ≤ p) (hs : beVal (x.drop (x.length - 4)) = crcSum (x.take (x.length - 4))) :
    beVal (c.drop (c.length - 4)) ≠ crcSum (c.take (c.length - 4)) := by
  obtain ⟨k, hk⟩ : ∃ k, k = x.length - 4 := ⟨_, rfl⟩
  rw [hl, ← hk]
  rw [← hk] at hc hs
  obtain ⟨x1, x2⟩ := num_take x k (by omega)
  obtain ⟨c1, c2⟩ := num_take c k (by omega)
  rw [hn, Nat.xor_mod_two_pow, ← x1] at c1
  rw [hn, xor_div2, ← x2] at c2
  have hp : 0 < 2 ^ p := Nat.two_pow_pos p
  rcases hc with hc | hc
  · rw [Nat.mod_eq_of_lt hc] at c1
    rw [Nat.div_eq_of_lt hc, Nat.xor_zero] at c2
    have e2 : c.drop k = x.drop k := num_inj _ _ (by simp; omega) c2
    rw [e2, hs]
    intro he
    unfold crcSum at he
    have he2 := congrArg (4294967295 ^^^ ·) he
    simp only [← Nat.xor_assoc, Nat.xor_self, Nat.zero_xor] at he2
    have l1 : (c.take k).length = (x.take k).length := by simp; omega
    have l2 : (x.take k).length = k := by simp; omega
    rw [crcRun_num, crcRun_num, l1, c1, l2, ← Nat.xor_assoc, crcN_lin _ _ (B * 2 ^ p)] at he2
    have h0 : crcN (8 * k) (B * 2 ^ p) = 0 := by
      have h3 := congrArg (crcN (8 * k) (4294967295 ^^^ num (List.take k x)) ^^^ ·) he2
      simp only [← Nat.xor_assoc, Nat.xor_self, Nat.zero_xor] at h3
      exact h3.symm
    have hpk : p ≤ 8 * k := by
      rcases Nat.lt_or_ge (8 * k) p with h | h
      · exfalso
        have h5 : 2 ^ (8 * k) ≤ 2 ^ p := Nat.pow_le_pow_right (by decide) (Nat.le_of_lt h)
        have h6 : 1 * 2 ^ p ≤ B * 2 ^ p := Nat.mul_le_mul_right _ (by omega)
        omega
      · exact h
    have h7 := crcN_high p 0 B
    rw [Nat.zero_xor] at h7
    have hz : ∀ n, crcN n 0 = 0 := by
      intro n
      induction n with
      | zero => rfl
      | succ n ih => exact ih
    rw [hz, Nat.zero_xor] at h7
    rw [show 8 * k = p + (8 * k - p) by omega, crcN_add, h7] at h0
    exact crcN_pos _ _ hB2 hB h0
  · obtain ⟨q, rfl⟩ : ∃ q, p = 8 * k + q := ⟨p - 8 * k, by omega⟩
    have e0 : B * 2 ^ (8 * k + q) = B * 2 ^ q * 2 ^ (8 * k) := by rw [Nat.pow_add, Nat.mul_comm (2 ^ (8 * k)), Nat.mul_assoc]
    rw [e0, Nat.mul_mod_left, Nat.xor_zero] at c1
    rw [e0, Nat.mul_div_cancel _ (Nat.two_pow_pos _)] at c2
    have e1 : c.take k = x.take k := num_inj _ _ (by simp; omega) c1
    rw [e1, ← hs]
    intro he
    have l1 : (c.drop k).length = (x.drop k).length := by simp; omega
    have h1 := be_beVal (c.drop k)
    have h2 := be_beVal (x.drop k)
    rw [he, l1, h2] at h1
    rw [← h1] at c2
    have h3 := congrArg (num (List.drop k x) ^^^ ·) c2
    simp only [← Nat.xor_assoc, Nat.xor_self, Nat.zero_xor] at h3
    have : 0 < B * 2 ^ q := Nat.mul_pos (by omega) (Nat.two_pow_pos _)
    omega

/-- A round of the turning: bit k of the window. -/
theorem turn_round (x c : List UInt8) (p k bits : Nat) (_hl : c.length = x.length) (_hp : p + k < 8 * x.length) (hn : num c = num x ^^^ (bits % 2 ^ k) * 2 ^ p) :
    (bits / 2 ^ k % 2 = 1 → ∀ h : (p + k) / 8 < c.length, num (c.set ((p + k) / 8) (c[(p + k) / 8] ^^^ UInt8.ofNat (2 ^ ((p + k) % 8)))) = num x ^^^ (bits % 2 ^ (k + 1)) * 2 ^ p) ∧
    (bits / 2 ^ k % 2 ≠ 1 → num c = num x ^^^ (bits % 2 ^ (k + 1)) * 2 ^ p) := by
  have hm : bits % 2 ^ (k + 1) = bits % 2 ^ k + 2 ^ k * (bits / 2 ^ k % 2) := by rw [Nat.pow_succ, Nat.mod_mul]
  refine ⟨fun h1 h => ?_, fun h1 => ?_⟩
  · rw [num_set c _ h, hn, hm, h1, Nat.mul_one]
    have e1 := xor_low (bits % 2 ^ k) 1 k (Nat.mod_lt _ (Nat.two_pow_pos k))
    rw [Nat.one_mul] at e1
    rw [← e1, xor_mul2, ← Nat.xor_assoc]
    have e2 : (UInt8.ofNat (2 ^ ((p + k) % 8))).toNat = 2 ^ ((p + k) % 8) := by
      have h8 : (p + k) % 8 < 8 := Nat.mod_lt _ (by decide)
      have h9 : 2 ^ ((p + k) % 8) < 2 ^ 8 := Nat.pow_lt_pow_right (by decide) h8
      exact Nat.mod_eq_of_lt h9
    rw [e2, ← Nat.pow_add, ← Nat.pow_add, Nat.mod_add_div, Nat.add_comm k p]
  · have : bits / 2 ^ k % 2 = 0 := by omega
    rw [hn, hm, this, Nat.mul_zero, Nat.add_zero]
end Go.Proofs.Ytoaoldhajpbenaa

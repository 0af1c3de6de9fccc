/- Numbers and their digits: plain law. No statement is proved here. -/
namespace Go.Proofs.YtmehjcimohhopaaDoor

def isDig (c : UInt8) : Bool := decide (48 ≤ c.toNat) && decide (c.toNat ≤ 57)
def numFold (l : List UInt8) : Nat := l.foldl (fun n c => 10 * n + (c.toNat - 48)) 0
/-- Digits as a number, and what is wrong. -/
def numP (l : List UInt8) : Int × Int :=
  if 1 ≤ l.length ∧ l.length ≤ 8 ∧ l.all isDig = true ∧ (l = [48] ∨ l.headD 0 ≠ 48) ∧ numFold l ≤ 16777215 then ((numFold l : Int), 0) else (0, 11)
/-- A number's digits, the last one first. -/
def revD : Nat → Nat → List UInt8
  | 0, _ => []
  | f + 1, n => UInt8.ofNat (48 + n % 10) :: (if n / 10 = 0 then [] else revD f (n / 10))
def digP (n : Int) : List UInt8 := if n < 0 ∨ 16777215 < n then [] else (revD 8 n.toNat).reverse

theorem numFold_snoc (l : List UInt8) (c : UInt8) : numFold (l ++ [c]) = 10 * numFold l + (c.toNat - 48) := by simp [numFold]
theorem list_snoc {α : Type} {P : List α → Prop} (h0 : P []) (h1 : ∀ l c, P l → P (l ++ [c])) : ∀ l, P l := by
  intro l
  have key : ∀ k : List α, P k.reverse := by
    intro k
    induction k with
    | nil => exact h0
    | cons c k ih => rw [List.reverse_cons]; exact h1 _ _ ih
  have := key l.reverse
  rwa [List.reverse_reverse] at this
theorem digit_back (c : UInt8) (h : isDig c = true) : UInt8.ofNat (48 + (c.toNat - 48) % 10) = c := by
  unfold isDig at h
  simp only [Bool.and_eq_true, decide_eq_true_eq] at h
  apply UInt8.toNat_inj.1
  show (48 + (c.toNat - 48) % 10) % 256 = c.toNat
  omega
theorem numFold_pos : ∀ l : List UInt8, l ≠ [] → l.all isDig = true → l.headD 0 ≠ 48 → 1 ≤ numFold l := by
  refine list_snoc (fun h => absurd rfl h) ?_
  intro l c ih _ ha hh
  rw [numFold_snoc]
  rw [List.all_append, Bool.and_eq_true] at ha
  by_cases hl : l = []
  · subst hl
    have hc : isDig c = true := by simpa using ha.2
    unfold isDig at hc
    simp only [Bool.and_eq_true, decide_eq_true_eq] at hc
    have : c.toNat ≠ 48 := fun h => hh (UInt8.toNat_inj.1 h)
    omega
  · have hh' : l.headD 0 ≠ 48 := by cases l with
      | nil => exact absurd rfl hl
      | cons a l => exact hh
    have := ih hl ha.1 hh'
    omega
theorem revD_fold : ∀ (l : List UInt8) (f : Nat), l ≠ [] → l.all isDig = true → (l = [48] ∨ l.headD 0 ≠ 48) → l.length ≤ f → revD f (numFold l) = l.reverse := by
  refine list_snoc (fun f h => absurd rfl h) ?_
  intro l c ih f _ ha hh hf
  rw [List.all_append, Bool.and_eq_true] at ha
  have hc : isDig c = true := by simpa using ha.2
  have hcb := digit_back c hc
  unfold isDig at hc
  simp only [Bool.and_eq_true, decide_eq_true_eq] at hc
  rw [List.length_append, List.length_singleton] at hf
  obtain ⟨f, rfl⟩ : ∃ g, f = g + 1 := ⟨f - 1, by omega⟩
  rw [numFold_snoc, List.reverse_append, List.reverse_singleton]
  show UInt8.ofNat (48 + (10 * numFold l + (c.toNat - 48)) % 10) :: (if (10 * numFold l + (c.toNat - 48)) / 10 = 0 then [] else revD f ((10 * numFold l + (c.toNat - 48)) / 10)) = c :: l.reverse
  have e1 : (10 * numFold l + (c.toNat - 48)) % 10 = (c.toNat - 48) % 10 := by omega
  have e2 : (10 * numFold l + (c.toNat - 48)) / 10 = numFold l := by omega
  rw [e1, e2, hcb]
  congr 1
  by_cases hl : l = []
  · subst hl; rfl
  · have hh' : l.headD 0 ≠ 48 := by
      rcases hh with hh | hh
      · exfalso
        have := congrArg List.length hh
        have : l.length = 0 := by simpa using this
        exact hl (List.eq_nil_of_length_eq_zero this)
      · cases l with
        | nil => exact absurd rfl hl
        | cons a l => exact hh
    have hp := numFold_pos l hl ha.1 hh'
    rw [if_neg (by omega)]
    exact ih f hl ha.1 (.inr hh') (by omega)
/-- A number read has the digits that were read. -/
theorem digP_numP (s : List UInt8) (h : (numP s).2 = 0) : digP (numP s).1 = s := by
  unfold numP at h ⊢
  by_cases hc : 1 ≤ s.length ∧ s.length ≤ 8 ∧ s.all isDig = true ∧ (s = [48] ∨ s.headD 0 ≠ 48) ∧ numFold s ≤ 16777215
  · rw [if_pos hc]
    obtain ⟨h1, h2, h3, h4, h5⟩ := hc
    unfold digP
    show (if (numFold s : Int) < 0 ∨ 16777215 < (numFold s : Int) then [] else (revD 8 (numFold s : Int).toNat).reverse) = s
    rw [if_neg (by omega), Int.toNat_natCast, revD_fold s 8 (by intro h; subst h; simp at h1) h3 h4 h2, List.reverse_reverse]
  · rw [if_neg hc] at h
    simp at h
theorem revD_ne (f n : Nat) : revD (f + 1) n ≠ [] := by simp [revD]
theorem revD_len : ∀ f n, (revD f n).length ≤ f
  | 0, _ => Nat.le_refl _
  | f + 1, n => by
    show (_ :: (if n / 10 = 0 then [] else revD f (n / 10)) : List UInt8).length ≤ _
    rw [List.length_cons]
    split
    · simp
    · have := revD_len f (n / 10); omega
theorem ofNat_digit (n : Nat) : (UInt8.ofNat (48 + n % 10)).toNat = 48 + n % 10 := by
  show (48 + n % 10) % 256 = _
  omega
theorem revD_all : ∀ f n, (revD f n).all isDig = true
  | 0, _ => rfl
  | f + 1, n => by
    show ((UInt8.ofNat (48 + n % 10)) :: (if n / 10 = 0 then [] else revD f (n / 10)) : List UInt8).all isDig = true
    rw [List.all_cons, Bool.and_eq_true]
    refine ⟨?_, ?_⟩
    · unfold isDig
      rw [ofNat_digit]
      simp only [Bool.and_eq_true, decide_eq_true_eq]
      omega
    · split
      · rfl
      · exact revD_all f (n / 10)
theorem fold_revD : ∀ f n, n < 10 ^ f → numFold (revD f n).reverse = n
  | 0, n, h => by simp at h; subst h; rfl
  | f + 1, n, h => by
    show numFold ((UInt8.ofNat (48 + n % 10)) :: (if n / 10 = 0 then [] else revD f (n / 10)) : List UInt8).reverse = n
    rw [List.reverse_cons, numFold_snoc, ofNat_digit]
    by_cases h0 : n / 10 = 0
    · rw [if_pos h0]
      show 10 * 0 + _ = n
      omega
    · rw [if_neg h0, fold_revD f (n / 10) (by rw [Nat.pow_succ] at h; omega)]
      omega
theorem head_revD : ∀ f n, n < 10 ^ (f + 1) → 1 ≤ n → (revD (f + 1) n).reverse.headD 0 ≠ 48
  | 0, n, h, h1 => by
    show ((UInt8.ofNat (48 + n % 10)) :: (if n / 10 = 0 then [] else revD 0 (n / 10)) : List UInt8).reverse.headD 0 ≠ 48
    have : n / 10 = 0 := by simp at h; omega
    rw [if_pos this]
    show UInt8.ofNat (48 + n % 10) ≠ 48
    intro he
    have := congrArg UInt8.toNat he
    rw [ofNat_digit] at this
    have : 48 + n % 10 = 48 := this
    simp at h
    omega
  | f + 1, n, h, h1 => by
    show ((UInt8.ofNat (48 + n % 10)) :: (if n / 10 = 0 then [] else revD (f + 1) (n / 10)) : List UInt8).reverse.headD 0 ≠ 48
    by_cases h0 : n / 10 = 0
    · rw [if_pos h0]
      show UInt8.ofNat (48 + n % 10) ≠ 48
      intro he
      have := congrArg UInt8.toNat he
      rw [ofNat_digit] at this
      have : 48 + n % 10 = 48 := this
      omega
    · rw [if_neg h0, List.reverse_cons]
      have ih := head_revD f (n / 10) (by rw [Nat.pow_succ] at h; omega) (by omega)
      have hne : (revD (f + 1) (n / 10)).reverse ≠ [] := by simp [revD]
      cases hr : (revD (f + 1) (n / 10)).reverse with
      | nil => exact absurd hr hne
      | cons a l => rw [hr] at ih; exact ih
/-- A number's digits are read as it. -/
theorem numP_digP (n : Int) (h0 : 0 ≤ n) (h1 : n ≤ 16777215) : numP (digP n) = (n, 0) ∧ digP n ≠ [] := by
  unfold digP
  rw [if_neg (by omega)]
  have hlt : n.toNat < 10 ^ 8 := by omega
  have hf := fold_revD 8 n.toNat hlt
  refine ⟨?_, by simp [revD]⟩
  unfold numP
  rw [if_pos, hf]
  · rw [Int.toNat_of_nonneg h0]
  · refine ⟨?_, ?_, ?_, ?_, ?_⟩
    · rw [List.length_reverse]
      rcases hl : revD 8 n.toNat with _ | ⟨a, l⟩
      · exact absurd hl (revD_ne 7 _)
      · simp
    · rw [List.length_reverse]; exact revD_len 8 _
    · rw [List.all_reverse]; exact revD_all 8 _
    · by_cases hz : n.toNat = 0
      · left; rw [hz]; rfl
      · right; exact head_revD 7 _ hlt (by omega)
    · rw [hf]; omega
/-- Digits so far, of a number's upper part. -/
def upD (n : Nat) : List UInt8 := if n = 0 then [] else (revD 8 n).reverse
theorem revD_fuel : ∀ f n, n < 10 ^ f → ∀ g, f ≤ g → 1 ≤ f → revD g n = revD f n
  | 0, _, _, _, _, h => by omega
  | f + 1, n, h, g, hg, _ => by
    obtain ⟨g, rfl⟩ : ∃ k, g = k + 1 := ⟨g - 1, by omega⟩
    show UInt8.ofNat (48 + n % 10) :: (if n / 10 = 0 then [] else revD g (n / 10)) = UInt8.ofNat (48 + n % 10) :: (if n / 10 = 0 then [] else revD f (n / 10))
    by_cases h0 : n / 10 = 0
    · rw [if_pos h0, if_pos h0]
    · rw [if_neg h0, if_neg h0]
      have hf : 1 ≤ f := by
        rcases Nat.eq_zero_or_pos f with rfl | h2
        · simp at h; omega
        · exact h2
      rw [revD_fuel f (n / 10) (by rw [Nat.pow_succ] at h; omega) g (by omega) hf]
theorem upD_step (n : Nat) (h : n < 10 ^ 8) (h1 : n ≠ 0) : upD n = upD (n / 10) ++ [UInt8.ofNat (48 + n % 10)] := by
  unfold upD
  rw [if_neg h1]
  have e : revD 8 n = UInt8.ofNat (48 + n % 10) :: (if n / 10 = 0 then [] else revD 7 (n / 10)) := rfl
  rw [e, List.reverse_cons]
  by_cases h0 : n / 10 = 0
  · rw [if_pos h0, if_pos h0]; rfl
  · rw [if_neg h0, if_neg h0, revD_fuel 7 (n / 10) (by omega) 8 (by omega) (by omega)]
end Go.Proofs.YtmehjcimohhopaaDoor

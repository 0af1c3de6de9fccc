/- Bytes read as pairs: what the walks lean on, plain. No statement is proved here. -/
import Derived.Test.YtmehjcimohhopaaDoorTxpG
namespace Go.Proofs.YtmehjcimohhopaaDoor
open Go.RowKit

/-- Where the walk over bytes stands: lines ls ahead of place a, no zero from a to i. -/
def LnAt (b : List UInt8) (ls : List (List UInt8)) (a i : Nat) : Prop :=
  a ≤ i ∧ i ≤ b.length ∧ b.take a = ls.flatMap (· ++ [0]) ∧ (∀ x ∈ ls, ∀ c ∈ x, c ≠ 0) ∧ ∀ j, a ≤ j → j < i → b[j]? ≠ some 0
theorem ln_start (b : List UInt8) : LnAt b [] 0 0 := ⟨Nat.le_refl _, Nat.zero_le _, rfl, fun x hx => (by cases hx), fun j _ h => (by omega)⟩
theorem ln_line {b : List UInt8} {ls : List (List UInt8)} {a i : Nat} (h : LnAt b ls a i) : ∀ c ∈ (b.take i).drop a, c ≠ 0 := by
  obtain ⟨h1, h2, -, -, h5⟩ := h
  intro c hc e
  obtain ⟨j, hj, hjc⟩ := List.getElem_of_mem hc
  simp only [List.length_drop, List.length_take] at hj
  have : b[a + j]? = some 0 := by
    rw [← e, ← hjc]
    simp [List.getElem?_eq_getElem (show a + j < b.length by omega)]
  exact h5 (a + j) (by omega) (by omega) this
theorem ln_zero {b : List UInt8} {ls : List (List UInt8)} {a i : Nat} (h : LnAt b ls a i) (hi : i < b.length) (hz : b[i]? = some 0) : LnAt b (ls ++ [(b.take i).drop a]) (i + 1) (i + 1) := by
  have hl := ln_line h
  obtain ⟨h1, h2, h3, h4, h5⟩ := h
  refine ⟨Nat.le_refl _, hi, ?_, ?_, fun j _ _ => by omega⟩
  · rw [List.flatMap_append, ← h3, List.take_add_one, hz]
    have : b.take i = b.take a ++ (b.take i).drop a := by
      have := List.take_append_drop a (b.take i)
      rw [List.take_take, Nat.min_eq_left h1] at this
      exact this.symm
    simp only [List.flatMap_cons, List.flatMap_nil, List.append_nil, Option.toList_some]
    rw [← List.append_assoc, ← this]
  · intro x hx
    rw [List.mem_append, List.mem_singleton] at hx
    rcases hx with hx | rfl
    · exact h4 x hx
    · exact hl
theorem ln_other {b : List UInt8} {ls : List (List UInt8)} {a i : Nat} (h : LnAt b ls a i) (hi : i < b.length) (hz : b[i]? ≠ some 0) : LnAt b ls a (i + 1) := by
  obtain ⟨h1, h2, h3, h4, h5⟩ := h
  refine ⟨by omega, hi, h3, h4, fun j hj hji => ?_⟩
  by_cases e : j = i
  · rw [e]; exact hz
  · exact h5 j hj (by omega)
theorem split_lines : ∀ (ls : List (List UInt8)) (r : List UInt8), (∀ x ∈ ls, ∀ c ∈ x, c ≠ 0) → splitZ (ls.flatMap (· ++ [0]) ++ r) = ls ++ splitZ r
  | [], r, _ => rfl
  | x :: ls, r, h => by
    have e : (x :: ls).flatMap (· ++ [0]) ++ r = x ++ 0 :: (ls.flatMap (· ++ [0]) ++ r) := by simp
    rw [e, splitZ_cons _ _ (h x (by simp)), split_lines ls r (fun y hy => h y (by simp [hy]))]
    rfl
theorem ln_stop {b : List UInt8} {ls : List (List UInt8)} {a i : Nat} (h : LnAt b ls a i) (hi : i < b.length) (hz : b[i]? = some 0) : ∃ rest, splitZ b.dropLast = ls ++ (b.take i).drop a :: rest := by
  have hl := ln_line h
  obtain ⟨h1, h2, h3, h4, h5⟩ := h
  have hb : b = ls.flatMap (· ++ [0]) ++ ((b.take i).drop a ++ 0 :: b.drop (i + 1)) := by
    have e1 : b.take i = b.take a ++ (b.take i).drop a := by
      have := List.take_append_drop a (b.take i)
      rw [List.take_take, Nat.min_eq_left h1] at this
      exact this.symm
    have e2 : b = b.take i ++ b.drop i := (List.take_append_drop i b).symm
    have e3 : b.drop i = 0 :: b.drop (i + 1) := by
      rw [List.drop_eq_getElem_cons hi]
      congr 1
      have := List.getElem?_eq_getElem hi
      rw [this] at hz
      exact Option.some.inj hz
    rw [← h3, ← List.append_assoc, ← e1, ← e3]
    exact e2
  by_cases ht : b.drop (i + 1) = []
  · rw [ht] at hb
    have e : b.dropLast = ls.flatMap (· ++ [0]) ++ (b.take i).drop a := by
      conv => lhs; rw [hb]
      rw [← List.append_assoc]
      exact List.dropLast_concat
    rw [e, split_lines _ _ h4, splitZ_one _ hl]
    exact ⟨[], rfl⟩
  · have e : b.dropLast = ls.flatMap (· ++ [0]) ++ ((b.take i).drop a ++ 0 :: (b.drop (i + 1)).dropLast) := by
      conv => lhs; rw [hb]
      rw [List.dropLast_append_of_ne_nil (by simp), List.dropLast_append_of_ne_nil (by simp), List.dropLast_cons_of_ne_nil ht]
    rw [e, split_lines _ _ h4, splitZ_cons _ _ hl]
    exact ⟨_, rfl⟩
theorem ln_end {b : List UInt8} {ls : List (List UInt8)} {a : Nat} (h : LnAt b ls a b.length) (hne : b ≠ []) (hz : b.getLastD 0 = 0) : splitZ b.dropLast = ls := by
  obtain ⟨h1, -, h3, h4, h5⟩ := h
  have hlast : b[b.length - 1]? = some 0 := by
    rw [← List.getLast?_eq_getElem?]
    rw [List.getLastD_eq_getLast?] at hz
    cases hg : b.getLast? with
    | none => exact absurd (List.getLast?_eq_none_iff.1 hg) hne
    | some c => rw [hg] at hz; exact congrArg some hz
  have hp : 0 < b.length := List.length_pos_iff.2 hne
  obtain rfl : a = b.length := by
    by_cases e : a < b.length
    · exact absurd hlast (h5 (b.length - 1) (by omega) (by omega))
    · omega
  rw [List.take_length] at h3
  rcases List.eq_nil_or_concat ls with rfl | ⟨l', x, rfl⟩
  · exact absurd h3 hne
  · rw [List.concat_eq_append] at *
    have e : b.dropLast = l'.flatMap (· ++ [0]) ++ x := by
      rw [h3, List.flatMap_append]
      simp only [List.flatMap_cons, List.flatMap_nil, List.append_nil]
      rw [← List.append_assoc]
      exact List.dropLast_concat
    rw [e, split_lines _ _ (fun y hy => h4 y (by simp [hy])), splitZ_one x (h4 x (by simp))]

theorem getP_nil : getP [] = ([], 0) := rfl
theorem getP_short {b : List UInt8} (hne : b ≠ []) (hz : b.getLastD 0 ≠ 0) : getP b = ([], 10) := by
  unfold getP
  rw [if_neg hne, if_pos hz]
theorem getP_run {b : List UInt8} (hne : b ≠ []) (hz : b.getLastD 0 = 0) : getP b = getRes (getRun (splitZ b.dropLast)) := by
  unfold getP
  rw [if_neg hne, if_neg (by rw [hz]; simp)]
theorem getP_at {b : List UInt8} {ls : List (List UInt8)} {a i : Nat} {out : List Pr} {e : Int} (h : LnAt b ls a i) (hi : i < b.length) (hz : b[i]? = some 0) (hl : b.getLastD 0 = 0) (hr : getRun ls = .ok out)
    (hs : getStep (.ok out) ((b.take i).drop a) = .error e) : getP b = ([], e) := by
  obtain ⟨rest, hrest⟩ := ln_stop h hi hz
  rw [getP_run (by intro e; rw [e] at hi; simp at hi) hl, hrest, getRun_stop ls rest _ e (by rw [hr]; exact hs)]
  rfl
theorem step64 {out : List Pr} {x : List UInt8} (h : out.length = 64) : getStep (.ok out) x = .error 3 := by
  show (if out.length = 64 then (.error 3 : Except Int (List Pr)) else _) = _
  rw [if_pos h]
theorem step_form {out : List Pr} {x : List UInt8} (h : out.length ≠ 64) (hc : cutE x = none) : getStep (.ok out) x = .error 11 := by
  show (if out.length = 64 then (.error 3 : Except Int (List Pr)) else match cutE x with | none => .error 11 | some (k, v) => if pairOK (toB k, toB v) && !(out.any fun p => p.1.data.toList == k) then .ok (out ++ [(toB k, toB v)]) else .error 11) = _
  rw [if_neg h, hc]
theorem step_bad {out : List Pr} {x k v : List UInt8} (h : out.length ≠ 64) (hc : cutE x = some (k, v)) (hb : (pairOK (toB k, toB v) && !(out.any fun p => p.1.data.toList == k)) = false) : getStep (.ok out) x = .error 11 := by
  show (if out.length = 64 then (.error 3 : Except Int (List Pr)) else match cutE x with | none => .error 11 | some (k, v) => if pairOK (toB k, toB v) && !(out.any fun p => p.1.data.toList == k) then .ok (out ++ [(toB k, toB v)]) else .error 11) = _
  rw [if_neg h, hc]
  show (if pairOK (toB k, toB v) && !(out.any fun p => p.1.data.toList == k) then (.ok (out ++ [(toB k, toB v)]) : Except Int (List Pr)) else .error 11) = _
  rw [hb]
  rfl
theorem step_good {out : List Pr} {x k v : List UInt8} (h : out.length ≠ 64) (hc : cutE x = some (k, v)) (hb : (pairOK (toB k, toB v) && !(out.any fun p => p.1.data.toList == k)) = true) : getStep (.ok out) x = .ok (out ++ [(toB k, toB v)]) := by
  show (if out.length = 64 then (.error 3 : Except Int (List Pr)) else match cutE x with | none => .error 11 | some (k, v) => if pairOK (toB k, toB v) && !(out.any fun p => p.1.data.toList == k) then .ok (out ++ [(toB k, toB v)]) else .error 11) = _
  rw [if_neg h, hc]
  show (if pairOK (toB k, toB v) && !(out.any fun p => p.1.data.toList == k) then (.ok (out ++ [(toB k, toB v)]) : Except Int (List Pr)) else .error 11) = _
  rw [if_pos hb]
theorem cutE_at : ∀ (x : List UInt8) (k : Nat), k < x.length → (∀ j, j < k → x[j]? ≠ some 61) → x[k]? = some 61 → cutE x = some (x.take k, x.drop (k + 1))
  | c :: x, 0, _, _, h => by
    have : c = 61 := by simpa using h
    rw [cutE, if_pos this]
    rfl
  | c :: x, k + 1, hk, hn, h => by
    have h0 : ¬ c = 61 := by simpa using hn 0 (by omega)
    rw [cutE, if_neg h0, cutE_at x k (by simpa using hk) (fun j hj => by simpa using hn (j + 1) (by omega)) (by simpa using h)]
    rfl
theorem cutE_none : ∀ (x : List UInt8), (∀ j : Nat, x[j]? ≠ some 61) → cutE x = none
  | [], _ => rfl
  | c :: x, hn => by
    have h0 : ¬ c = 61 := by simpa using hn 0
    rw [cutE, if_neg h0, cutE_none x (fun j => by simpa using hn (j + 1))]
    rfl
theorem getRun_len : ∀ (ls : List (List UInt8)) (out : List Pr), getRun ls = .ok out → out.length ≤ 64 := by
  intro ls out h
  exact (run_back ls [] out (Nat.zero_le _) rfl h).1
/-- Bytes are read as pairs: what it comes to. -/
def GetTo (w : World) (r : List Pr × Int) (e : Ending) (w' : World) : Prop :=
  ∃ v, e = .returned (.tuple #[v, .int .i64 r.2]) ∧ PairsAt (w.heap.size ≤ ·) w' v r.1 ∧ Below w.heap.size w w'
theorem pairs_none {S : Nat → Prop} (w : World) : PairsAt S w (.slice none 0 0) [] := ⟨rfl, .inl ⟨rfl, .inl rfl⟩⟩
end Go.Proofs.YtmehjcimohhopaaDoor

/- Logs as plain lists: where a place lies, which term it has. Plain Lean, no program. -/
import Derived.Test.YtoaoldhajpbenaaEntC
namespace Go.Proofs.Ytoaoldhajpbenaa

/-- A log: its floor and its runs. -/
structure Lg where
  a : Int
  t : Int
  m : Int
  rs : List (Int × List Ent)
def Lg.parts (g : Lg) : List Part := .ground g.a g.t g.m :: g.rs.map fun r => .run r.1 r.2
def allOf (rs : List (Int × List Ent)) : List Ent := rs.flatMap (·.2)
def Lg.ents (g : Lg) : List Ent := allOf g.rs
/-- Runs one behind the other, their terms rising. -/
def Chain (p t : Int) : List (Int × List Ent) → Prop
  | [] => True
  | (f, l) :: rs => f = p ∧ l ≠ [] ∧ (∀ e ∈ l, e.term = headTerm l ∧ rightB e = true) ∧ t ≤ headTerm l ∧ Chain (f + l.length) (headTerm l + 1) rs
structure Lg.Good (g : Lg) : Prop where
  a0 : 0 ≤ g.a
  a1 : g.a ≤ 1099511627776
  t0 : 0 ≤ g.t
  t1 : g.t ≤ 1099511627776
  m0 : 1 ≤ g.m
  m1 : g.m ≤ 31
  chain : Chain (g.a + 1) g.t g.rs
  len : g.ents.length ≤ 4096
def Lg.top (g : Lg) : Int := g.a + g.ents.length
def Lg.termAt (g : Lg) (n : Int) : Int :=
  if n = g.a then g.t else if g.a < n ∧ n ≤ g.top then ((g.ents[(n - g.a - 1).toNat]?).map (·.term)).getD 0 else -1

theorem allOf_cons (r : Int × List Ent) (rs : List (Int × List Ent)) : allOf (r :: rs) = r.2 ++ allOf rs := by simp [allOf]
theorem allOf_append (rs qs : List (Int × List Ent)) : allOf (rs ++ qs) = allOf rs ++ allOf qs := by simp [allOf]

theorem Chain.at {p t : Int} : ∀ {rs : List (Int × List Ent)}, Chain p t rs → ∀ j (h : j < rs.length), rs[j].1 = p + (allOf (rs.take j)).length ∧ rs[j].2 ≠ [] ∧ (∀ e ∈ rs[j].2, e.term = headTerm rs[j].2 ∧ rightB e = true) ∧ t ≤ headTerm rs[j].2
  | [], _, j, h => by simp at h
  | (f, l) :: rs, ⟨h1, h2, h3, h4, h5⟩, 0, _ => ⟨by simp [allOf, h1], h2, h3, h4⟩
  | (f, l) :: rs, ⟨h1, h2, h3, h4, h5⟩, j + 1, h => by
    obtain ⟨a1, a2, a3, a4⟩ := Chain.at h5 j (by simpa using h)
    refine ⟨?_, by simpa using a2, by simpa using a3, by simp at a4 ⊢; omega⟩
    simp [allOf_cons] at a1 ⊢
    omega

theorem take_at (rs : List (Int × List Ent)) (j : Nat) (h : j < rs.length) : allOf rs = allOf (rs.take j) ++ (rs[j].2 ++ allOf (rs.drop (j + 1))) := by
  have e : rs = rs.take j ++ rs[j] :: rs.drop (j + 1) := by simp
  calc allOf rs = allOf (rs.take j ++ rs[j] :: rs.drop (j + 1)) := by rw [← e]
    _ = _ := by rw [allOf_append, allOf_cons]

theorem len_le_at (rs : List (Int × List Ent)) (j : Nat) (h : j < rs.length) : (allOf (rs.take j)).length + rs[j].2.length ≤ (allOf rs).length := by
  rw [take_at rs j h]; simp

/-- Each place above the floor lies in a run. -/
theorem Chain.find {p t : Int} : ∀ {rs : List (Int × List Ent)}, Chain p t rs → ∀ n : Int, p ≤ n → n < p + (allOf rs).length → ∃ j, ∃ h : j < rs.length, rs[j].1 ≤ n ∧ n ≤ rs[j].1 + rs[j].2.length - 1
  | [], _, n, h1, h2 => by simp [allOf] at h2; omega
  | (f, l) :: rs, ⟨e1, e2, e3, e4, e5⟩, n, h1, h2 => by
    by_cases hn : n ≤ f + l.length - 1
    · exact ⟨0, by simp, by simp; omega, by simpa using hn⟩
    · obtain ⟨j, hj, a1, a2⟩ := Chain.find e5 n (by omega) (by simp [allOf_cons] at h2; omega)
      exact ⟨j + 1, by simpa using hj, by simpa using a1, by simpa using a2⟩

theorem Lg.parts_length (g : Lg) : g.parts.length = g.rs.length + 1 := by simp [Lg.parts]
theorem Lg.parts_zero (g : Lg) : g.parts[0]'(by simp [Lg.parts]) = .ground g.a g.t g.m := rfl
theorem Lg.parts_succ (g : Lg) (j : Nat) (h : j < g.rs.length) : g.parts[j + 1]'(by simp [Lg.parts]; omega) = .run g.rs[j].1 g.rs[j].2 := by simp [Lg.parts]

theorem runs_le_all : ∀ (rs : List (Int × List Ent)), (∀ r ∈ rs, r.2 ≠ []) → rs.length ≤ (allOf rs).length
  | [], _ => by simp
  | r :: rs, h => by
    have := runs_le_all rs (fun q hq => h q (by simp [hq]))
    have h1 := List.length_pos_iff.2 (h r (by simp))
    simp [allOf_cons]; omega
theorem Chain.ne {p t : Int} : ∀ {rs : List (Int × List Ent)}, Chain p t rs → ∀ r ∈ rs, r.2 ≠ []
  | [], _, r, h => by simp at h
  | (f, l) :: rs, ⟨_, e2, _, _, e5⟩, r, h => by
    rcases List.mem_cons.1 h with rfl | h
    · exact e2
    · exact Chain.ne e5 r h

theorem Lg.Good.run_ok {g : Lg} (h : g.Good) (j : Nat) (hj : j < g.rs.length) : (Part.run g.rs[j].1 g.rs[j].2).ok := by
  obtain ⟨a1, a2, _⟩ := h.chain.at j hj
  have := len_le_at g.rs j hj
  have := h.len; have := h.a0; have := h.a1
  have := List.length_pos_iff.2 a2
  unfold Lg.ents at *
  exact ⟨by omega, by omega, by omega, by omega⟩
theorem Lg.Good.ok {g : Lg} (h : g.Good) : ∀ q ∈ g.parts, q.ok := by
  intro q hq
  obtain ⟨i, hi, rfl⟩ := List.getElem_of_mem hq
  cases i with
  | zero => exact ⟨h.a0, h.a1⟩
  | succ j => rw [g.parts_succ j (by simpa [Lg.parts] using hi)]; exact h.run_ok j _
theorem Lg.Good.parts_le {g : Lg} (h : g.Good) : g.parts.length ≤ 4097 := by
  have := runs_le_all g.rs h.chain.ne
  have := h.len
  unfold Lg.ents at *
  rw [g.parts_length]; omega

/-- A place that no part has is below the floor or above the top. -/
theorem Lg.Good.noPart {g : Lg} (h : g.Good) {n : Int} (hn : ∀ j (hj : j < g.parts.length), g.parts[j].has n = false) : n < g.a ∨ g.top < n := by
  by_cases h1 : n < g.a
  · exact .inl h1
  · have h0 := hn 0 (by simp [Lg.parts])
    rw [g.parts_zero] at h0
    simp [Part.has] at h0
    by_cases h2 : g.top < n
    · exact .inr h2
    · exfalso
      unfold Lg.top Lg.ents at h2
      obtain ⟨j, hj, a1, a2⟩ := h.chain.find n (by omega) (by omega)
      have := hn (j + 1) (by simp [Lg.parts]; omega)
      rw [g.parts_succ j hj] at this
      simp [Part.has] at this
      omega
theorem Lg.termAt_none {g : Lg} {n : Int} (h : n < g.a ∨ g.top < n) : g.termAt n = -1 := by
  unfold Lg.termAt
  have : ¬ n = g.a := by unfold Lg.top at h; omega
  rw [if_neg this, if_neg (by omega)]

/-- Where a part has a place: what is known of it. -/
theorem Lg.Good.part {g : Lg} (h : g.Good) {n : Int} {i : Nat} (hi : i < g.parts.length) (hp : g.parts[i].has n = true) :
    (i = 0 ∧ n = g.a) ∨ ∃ j, ∃ hj : j < g.rs.length, i = j + 1 ∧ g.a < n ∧ n ≤ g.top ∧ g.rs[j].1 ≤ n ∧ n ≤ g.rs[j].1 + g.rs[j].2.length - 1 ∧ g.rs[j].1 = g.a + 1 + (allOf (g.rs.take j)).length ∧
      g.ents[(n - g.a - 1).toNat]? = g.rs[j].2[(n - g.rs[j].1).toNat]? := by
  cases i with
  | zero => rw [g.parts_zero] at hp; simp [Part.has] at hp; exact .inl ⟨rfl, hp⟩
  | succ j =>
    have hj : j < g.rs.length := by simpa [Lg.parts] using hi
    rw [g.parts_succ j hj] at hp
    simp [Part.has] at hp
    obtain ⟨a1, a2, _⟩ := h.chain.at j hj
    have hl := len_le_at g.rs j hj
    refine .inr ⟨j, hj, rfl, by omega, by unfold Lg.top Lg.ents; omega, hp.1, hp.2, a1, ?_⟩
    unfold Lg.ents
    rw [take_at g.rs j hj, List.getElem?_append_right (by omega), List.getElem?_append_left (by omega)]
    congr 1
    omega
theorem Lg.Good.termAt_ground {g : Lg} : g.termAt g.a = g.t := by simp [Lg.termAt]
theorem Lg.Good.termAt_run {g : Lg} (h : g.Good) {n : Int} {j : Nat} (hj : j < g.rs.length) (h1 : g.a < n) (h2 : n ≤ g.top) (h3 : g.rs[j].1 ≤ n) (h4 : n ≤ g.rs[j].1 + g.rs[j].2.length - 1)
    (he : g.ents[(n - g.a - 1).toNat]? = g.rs[j].2[(n - g.rs[j].1).toNat]?) : g.termAt n = headTerm g.rs[j].2 := by
  unfold Lg.termAt
  rw [if_neg (by omega), if_pos ⟨h1, h2⟩, he, List.getElem?_eq_getElem (by omega)]
  simp only [Option.map_some, Option.getD_some]
  exact ((h.chain.at j hj).2.2.1 _ (List.getElem_mem _)).1
theorem head_term {l : List Ent} (h : 0 < l.length) : headTerm l = l[0].term := by
  cases l with
  | nil => simp at h
  | cons x xs => rfl
/-- The last part: the floor alone, or a run that ends at the top. -/
theorem Lg.Good.last {g : Lg} (h : g.Good) :
    (g.rs = [] ∧ g.parts[g.parts.length - 1]'(by simp [Lg.parts]) = .ground g.a g.t g.m ∧ g.top = g.a ∧ g.termAt g.top = g.t) ∨
    ∃ f l, g.parts[g.parts.length - 1]'(by simp [Lg.parts]) = .run f l ∧ (Part.run f l).ok ∧ g.top = f + l.length - 1 ∧ g.termAt g.top = headTerm l ∧ g.a < g.top ∧
      g.rs = g.rs.take (g.rs.length - 1) ++ [(f, l)] := by
  rcases Nat.eq_zero_or_pos g.rs.length with h0 | h0
  · have hr : g.rs = [] := List.eq_nil_of_length_eq_zero h0
    have ht : g.top = g.a := by simp [Lg.top, Lg.ents, hr, allOf]
    exact .inl ⟨hr, by simp [Lg.parts, hr], ht, by rw [ht]; exact Lg.Good.termAt_ground⟩
  · have hj : g.rs.length - 1 < g.rs.length := by omega
    have hp : g.parts[g.parts.length - 1]'(by simp [Lg.parts]) = .run g.rs[g.rs.length - 1].1 g.rs[g.rs.length - 1].2 := by
      rw [← g.parts_succ _ hj]; congr 1; simp [Lg.parts]; omega
    obtain ⟨a1, a2, a3, a4⟩ := h.chain.at _ hj
    have hall := take_at g.rs _ hj
    have hd : g.rs.drop (g.rs.length - 1 + 1) = [] := by simp; omega
    rw [hd] at hall
    have hlen : (allOf g.rs).length = (allOf (g.rs.take (g.rs.length - 1))).length + g.rs[g.rs.length - 1].2.length := by rw [hall]; simp [allOf]
    have ht : g.top = g.rs[g.rs.length - 1].1 + g.rs[g.rs.length - 1].2.length - 1 := by unfold Lg.top Lg.ents; omega
    have hl := List.length_pos_iff.2 a2
    have hat : g.a < g.top := by unfold Lg.top Lg.ents; omega
    refine .inr ⟨_, _, hp, h.run_ok _ hj, ht, ?_, hat, ?_⟩
    · refine h.termAt_run hj hat (Int.le_refl _) (by omega) (by omega) ?_
      have hi : (g.top - g.a - 1).toNat = g.ents.length - 1 := by unfold Lg.top; omega
      rw [hi, show (g.top - g.rs[g.rs.length - 1].1).toNat = g.rs[g.rs.length - 1].2.length - 1 by omega]
      unfold Lg.ents
      rw [hlen, hall, List.getElem?_append_right (by omega), List.getElem?_append_left (by omega)]
      congr 1
      omega
    · conv => lhs; rw [← List.take_append_drop (g.rs.length - 1) g.rs]
      congr 1
      rw [List.drop_eq_getElem_cons hj, hd]
end Go.Proofs.Ytoaoldhajpbenaa

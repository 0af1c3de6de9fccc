/- Runs of a log, as plain lists: one behind the other, terms rising. No statement is proved here. -/
import Derived.Test.YtoaoldhajpbenaaEntU
namespace Go.Proofs.Ytoaoldhajpbenaa

theorem Chain.rise {p t : Int} : ∀ {rs : List (Int × List Ent)}, Chain p t rs → ∀ j (h : j + 1 < rs.length), headTerm rs[j].2 < headTerm rs[j + 1].2
  | [], _, j, h => by simp at h
  | [r], _, j, h => by simp at h
  | r :: q :: rs, ⟨_, _, _, _, h5⟩, 0, _ => by
    obtain ⟨_, _, _, h4, _⟩ := h5
    show headTerm r.2 < headTerm q.2
    omega
  | r :: q :: rs, ⟨_, _, _, _, h5⟩, j + 1, h => Chain.rise h5 j (by simpa using h)

theorem Lg.Good.next {g : Lg} (h : g.Good) (j : Nat) (hj : j + 1 < g.rs.length) : g.rs[j + 1].1 = g.rs[j].1 + g.rs[j].2.length := by
  have h1 := (h.chain.at j (by omega)).1
  have h2 := (h.chain.at (j + 1) hj).1
  rw [List.take_succ_eq_append_getElem (by omega), allOf_append] at h2
  simp [allOf] at h1 h2
  omega
theorem Lg.Good.fin {g : Lg} (h : g.Good) (j : Nat) (hj : j + 1 = g.rs.length) : g.rs[j].1 + g.rs[j].2.length = g.a + 1 + g.ents.length := by
  have h1 := (h.chain.at j (by omega)).1
  have h2 := take_at g.rs j (by omega)
  have h3 : g.rs.drop (j + 1) = [] := List.drop_eq_nil_of_le (by omega)
  rw [h3] at h2
  unfold Lg.ents
  rw [h2]
  simp [allOf] at h1 ⊢
  omega
theorem Lg.Good.first {g : Lg} (h : g.Good) (hr : 0 < g.rs.length) : g.rs[0].1 = g.a + 1 := by
  have := (h.chain.at 0 hr).1
  simpa [allOf] using this
theorem Lg.Good.runs_pos {g : Lg} (h : g.Good) (hl : 0 < g.ents.length) : 0 < g.rs.length := by
  rcases Nat.eq_zero_or_pos g.rs.length with h0 | h0
  · have : g.rs = [] := List.eq_nil_of_length_eq_zero h0
    unfold Lg.ents at hl; rw [this] at hl; simp [allOf] at hl
  · exact h0

/-- Run k holds place a + i; ahead of the first place: the first run. -/
def Kin (g : Lg) (i k : Nat) : Prop := ∃ h : k < g.rs.length, (i = 0 → k = 0) ∧ (0 < i → g.rs[k].1 ≤ g.a + i ∧ g.a + i ≤ g.rs[k].1 + g.rs[k].2.length - 1)
theorem Lg.Good.kin_up {g : Lg} (h : g.Good) {i k : Nat} (hk : Kin g i k) (h1 : k + 1 < g.rs.length) (h2 : g.rs[k + 1].1 = g.a + i + 1) :
    Kin g (i + 1) (k + 1) ∧ headTerm g.rs[k].2 < headTerm g.rs[k + 1].2 := by
  refine ⟨⟨h1, by simp, fun _ => ?_⟩, h.chain.rise k h1⟩
  obtain ⟨k3, -⟩ := (h.run_ok (k + 1) h1).2.2
  have : 0 < g.rs[k + 1].2.length := k3
  constructor <;> omega
theorem Lg.Good.kin_on {g : Lg} (h : g.Good) {i k : Nat} (hi : i < g.ents.length) (hk : Kin g i k) (h2 : ¬ ∃ h1 : k + 1 < g.rs.length, g.rs[k + 1].1 = g.a + i + 1) : Kin g (i + 1) k := by
  obtain ⟨hk, h0, h3⟩ := hk
  refine ⟨hk, by simp, fun _ => ?_⟩
  obtain ⟨-, -, k3, -⟩ := h.run_ok k hk
  have k3 : 0 < g.rs[k].2.length := k3
  rcases Nat.eq_zero_or_pos i with rfl | hp
  · obtain rfl := h0 rfl
    have := h.first hk
    constructor <;> omega
  · obtain ⟨h4, h5⟩ := h3 hp
    refine ⟨by omega, ?_⟩
    by_cases hn : k + 1 < g.rs.length
    · have := h.next k hn
      have hne : ¬ g.rs[k + 1].1 = g.a + i + 1 := fun e => h2 ⟨hn, e⟩
      omega
    · have := h.fin k (by omega)
      omega
theorem Lg.Good.kin_term {g : Lg} (h : g.Good) {i k : Nat} (hi : i < g.ents.length) (hk : Kin g (i + 1) k) : g.termAt (g.a + i + 1) = headTerm (g.rs[k]'hk.1).2 ∧ g.termAt (g.a + i + 1) = g.ents[i].term := by
  obtain ⟨hk, -, h3⟩ := hk
  obtain ⟨h4, h5⟩ := h3 (by omega)
  have e : g.termAt (g.a + i + 1) = g.ents[i].term := by
    unfold Lg.termAt
    rw [if_neg (by omega), if_pos (by unfold Lg.top; omega)]
    have : (g.a + (i : Int) + 1 - g.a - 1).toNat = i := by omega
    rw [this, List.getElem?_eq_getElem hi]; rfl
  refine ⟨?_, e⟩
  rw [e]
  obtain ⟨a1, a2, a3, a4⟩ := h.chain.at k hk
  have hx := take_at g.rs k hk
  have hi' : i = (allOf (g.rs.take k)).length + (i - (allOf (g.rs.take k)).length) := by omega
  have hlt : i - (allOf (g.rs.take k)).length < g.rs[k].2.length := by omega
  have : g.ents[i] = g.rs[k].2[i - (allOf (g.rs.take k)).length] := by
    unfold Lg.ents
    simp only [hx]
    rw [List.getElem_append_right (by omega), List.getElem_append_left hlt]
  rw [this]
  exact (a3 _ (List.getElem_mem hlt)).1
theorem Lg.Good.kin_end {g : Lg} (h : g.Good) {k : Nat} (hl : 0 < g.ents.length) (hk : Kin g g.ents.length k) : k + 1 = g.rs.length := by
  obtain ⟨hk, -, h3⟩ := hk
  obtain ⟨h4, h5⟩ := h3 hl
  rcases Nat.lt_or_ge (k + 1) g.rs.length with hn | hn
  · exfalso
    obtain ⟨a1, a2, a3, a4⟩ := h.chain.at (k + 1) hn
    have h6 := h.next k hn
    have h7 := len_le_at g.rs (k + 1) hn
    have : 0 < g.rs[k + 1].2.length := List.length_pos_iff.2 a2
    have e : g.ents.length = (allOf g.rs).length := rfl
    omega
  · omega

theorem runCells_at : ∀ (l : List (Int × Int)) (j : Nat) (h : j < l.length), (runCells l)[j * 2]? = some (.int .i64 l[j].1) ∧ (runCells l)[j * 2 + 1]? = some (.int .i64 l[j].2)
  | [], j, h => by simp at h
  | x :: l, 0, _ => by simp [runCells]
  | x :: l, j + 1, h => by
    have := runCells_at l j (by simpa using h)
    have e1 : (j + 1) * 2 = j * 2 + 1 + 1 := by omega
    have e2 : runCells (x :: l) = .int .i64 x.1 :: .int .i64 x.2 :: runCells l := rfl
    rw [e1, e2]
    simpa using this
end Go.Proofs.Ytoaoldhajpbenaa

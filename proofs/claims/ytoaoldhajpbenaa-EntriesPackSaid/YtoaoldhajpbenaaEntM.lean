/- Entries added to a log, as plain lists. Plain Lean, no program. -/
import Derived.Test.YtoaoldhajpbenaaEntL
namespace Go.Proofs.Ytoaoldhajpbenaa

def Lg.topTerm (g : Lg) : Int := match g.rs.getLast? with
  | some r => headTerm r.2
  | none => g.t
def addE (a : Int) (rs : List (Int × List Ent)) (e : Ent) : List (Int × List Ent) := match rs.getLast? with
  | some r => if e.term = headTerm r.2 then rs.dropLast ++ [(r.1, r.2 ++ [e])] else rs ++ [(r.1 + r.2.length, [e])]
  | none => [(a + 1, [e])]
def Lg.add (g : Lg) (e : Ent) : Lg := { g with rs := addE g.a g.rs e }
def Lg.adds (g : Lg) (l : List Ent) : Lg := l.foldl Lg.add g
def okSeq (t : Int) : List Ent → Bool
  | [] => true
  | e :: es => rightB e && decide (t ≤ e.term) && okSeq e.term es

theorem Lg.Good.topTerm {g : Lg} (h : g.Good) : g.termAt g.top = g.topTerm := by
  rcases h.last with ⟨hr, -, ht, htt⟩ | ⟨f, l, -, -, ht, htt, -, hrs⟩
  · simp [Lg.topTerm, hr, htt]
  · rw [htt]; unfold Lg.topTerm; rw [hrs]; simp

theorem Chain.append {p t : Int} : ∀ {rs qs : List (Int × List Ent)}, Chain p t rs → Chain (p + (allOf rs).length) (match rs.getLast? with | some r => headTerm r.2 + 1 | none => t) qs → Chain p t (rs ++ qs)
  | [], qs, _, h => by simpa [allOf] using h
  | [(f, l)], qs, ⟨h1, h2, h3, h4, h5⟩, h => ⟨h1, h2, h3, h4, by
      subst h1
      simpa [allOf] using h⟩
  | (f, l) :: r :: rs, qs, ⟨h1, h2, h3, h4, h5⟩, h => ⟨h1, h2, h3, h4, by
      refine Chain.append h5 ?_
      subst h1
      rw [allOf_cons] at h
      have e1 : f + (l ++ allOf (r :: rs)).length = f + ↑l.length + ↑(allOf (r :: rs)).length := by simp; omega
      have e2 : ((f, l) :: r :: rs).getLast? = (r :: rs).getLast? := by simp [List.getLast?]
      rw [e2] at h
      simp only [] at h
      rw [e1] at h
      cases hr : (r :: rs).getLast? with
      | none => simp at hr
      | some q => rw [hr] at h; exact h⟩
theorem Chain.dropLast {p t : Int} : ∀ {rs : List (Int × List Ent)}, Chain p t rs → Chain p t rs.dropLast
  | [], h => h
  | [_], _ => trivial
  | (f, l) :: r :: rs, ⟨h1, h2, h3, h4, h5⟩ => ⟨h1, h2, h3, h4, Chain.dropLast h5⟩

/-- The last run, taken apart. -/
theorem Chain.split {p t : Int} : ∀ {rs : List (Int × List Ent)} {r : Int × List Ent}, Chain p t (rs ++ [r]) → Chain p t rs ∧ r.1 = p + (allOf rs).length ∧ r.2 ≠ [] ∧ (∀ e ∈ r.2, e.term = headTerm r.2 ∧ rightB e = true) ∧ (match rs.getLast? with | some q => headTerm q.2 + 1 | none => t) ≤ headTerm r.2
  | [], r, ⟨h1, h2, h3, h4, _⟩ => ⟨trivial, by simp [allOf, h1], h2, h3, h4⟩
  | [(f, l)], r, ⟨h1, h2, h3, h4, h5⟩ => by
    obtain ⟨-, a2, a3, a4, a5⟩ := Chain.split (rs := []) h5
    exact ⟨⟨h1, h2, h3, h4, trivial⟩, by simp [allOf] at a2 ⊢; omega, a3, a4, a5⟩
  | (f, l) :: q :: rs, r, ⟨h1, h2, h3, h4, h5⟩ => by
    obtain ⟨a1, a2, a3, a4, a5⟩ := Chain.split (rs := q :: rs) h5
    refine ⟨⟨h1, h2, h3, h4, a1⟩, by simp [allOf_cons] at a2 ⊢; omega, a3, a4, ?_⟩
    have e2 : ((f, l) :: q :: rs).getLast? = (q :: rs).getLast? := by simp [List.getLast?]
    rw [e2]
    cases hr : (q :: rs).getLast? with
    | none => simp at hr
    | some x => rw [hr] at a5; exact a5

/-- One entry more. -/
theorem Lg.Good.add {g : Lg} (h : g.Good) {e : Ent} (he : rightB e = true) (ht : g.topTerm ≤ e.term) (hl : g.ents.length < 4096) :
    (g.add e).Good ∧ (g.add e).ents = g.ents ++ [e] ∧ (g.add e).topTerm = e.term := by
  have hc := h.chain
  have key : Chain (g.a + 1) g.t (addE g.a g.rs e) ∧ allOf (addE g.a g.rs e) = allOf g.rs ++ [e] ∧ (Lg.mk g.a g.t g.m (addE g.a g.rs e)).topTerm = e.term := by
    rcases List.eq_nil_or_concat g.rs with hr | ⟨rs, r, hr⟩
    · rw [hr]
      simp only [Lg.topTerm, hr, List.getLast?_nil] at ht
      simp [addE, allOf, Lg.topTerm, headTerm, Chain, he, ht]
    · rw [List.concat_eq_append] at hr
      rw [hr] at hc ⊢
      obtain ⟨c1, c2, c3, c4, c5⟩ := Chain.split hc
      simp only [Lg.topTerm, hr, List.getLast?_append, List.getLast?_singleton, Option.some_or] at ht
      have hh : headTerm (r.2 ++ [e]) = headTerm r.2 := by
        cases hr2 : r.2 with
        | nil => exact absurd hr2 c3
        | cons x xs => rfl
      unfold addE
      simp only [List.getLast?_append, List.getLast?_singleton, Option.some_or, List.dropLast_concat]
      split
      · rename_i heq
        refine ⟨Chain.append c1 ⟨c2, by simp, ?_, by rw [hh]; exact c5, trivial⟩, by simp [allOf], by simp [Lg.topTerm, hh, heq]⟩
        intro x hx
        rw [hh]
        rcases List.mem_append.1 hx with hx | hx
        · exact c4 x hx
        · simp at hx; subst hx; exact ⟨heq, he⟩
      · rename_i hne
        refine ⟨Chain.append hc ⟨?_, by simp, ?_, ?_, trivial⟩, by simp [allOf], by simp [Lg.topTerm, headTerm]⟩
        · simp [allOf] at c2 ⊢; omega
        · intro x hx; simp at hx; subst hx; exact ⟨rfl, he⟩
        · simp only [List.getLast?_append, List.getLast?_singleton, Option.some_or]
          show headTerm r.2 + 1 ≤ e.term
          omega
  exact ⟨⟨h.a0, h.a1, h.t0, h.t1, h.m0, h.m1, key.1, by show (allOf (addE g.a g.rs e)).length ≤ 4096; rw [key.2.1]; unfold Lg.ents at hl; simp; omega⟩, key.2.1, key.2.2⟩

theorem Lg.adds_snoc (g : Lg) (l : List Ent) (e : Ent) : g.adds (l ++ [e]) = (g.adds l).add e := by simp [Lg.adds]
/-- The term behind which the next one comes. -/
def lastT (t : Int) (l : List Ent) : Int := match l.getLast? with
  | some x => x.term
  | none => t
theorem lastT_nil (t : Int) : lastT t [] = t := rfl
theorem lastT_snoc (t : Int) (l : List Ent) (e : Ent) : lastT t (l ++ [e]) = e.term := by simp [lastT]
theorem okSeq_snoc : ∀ (t : Int) (l : List Ent) (e : Ent), okSeq t (l ++ [e]) = (okSeq t l && rightB e && decide (lastT t l ≤ e.term))
  | t, [], e => by show (rightB e && decide (t ≤ e.term) && true) = (true && rightB e && decide (t ≤ e.term)); rw [Bool.and_true, Bool.true_and]
  | t, [x], e => by
    have : lastT t [x] = x.term := rfl
    simp only [List.cons_append, List.nil_append, okSeq, Bool.and_true, this, Bool.and_assoc]
  | t, x :: y :: l, e => by
    have h := okSeq_snoc x.term (y :: l) e
    have e2 : lastT t (x :: y :: l) = lastT x.term (y :: l) := by
      unfold lastT
      have e3 : (x :: y :: l).getLast? = (y :: l).getLast? := by simp [List.getLast?]
      rw [e3]
      cases hr : (y :: l).getLast? with
      | none => simp at hr
      | some q => rfl
    rw [e2]
    show (rightB x && decide (t ≤ x.term) && okSeq x.term (y :: l ++ [e])) = _
    rw [h]
    show _ = (rightB x && decide (t ≤ x.term) && okSeq x.term (y :: l) && rightB e && _)
    simp only [Bool.and_assoc]
theorem okSeq_take_false {t : Int} : ∀ {l : List Ent} (k : Nat), okSeq t (l.take k) = false → okSeq t l = false := by
  intro l
  induction l generalizing t with
  | nil => intro k h; simpa using h
  | cons x l ih =>
    intro k h
    cases k with
    | zero => simp [okSeq] at h
    | succ k =>
      simp only [List.take_succ_cons, okSeq, Bool.and_eq_false_iff] at h ⊢
      rcases h with h | h
      · exact .inl h
      · exact .inr (ih k h)
theorem snoc_ind {α : Type} {P : List α → Prop} (h0 : P []) (hs : ∀ l e, P l → P (l ++ [e])) (l : List α) : P l := by
  have h : ∀ r : List α, P r.reverse := by
    intro r
    induction r with
    | nil => exact h0
    | cons x r ih => rw [List.reverse_cons]; exact hs _ _ ih
  simpa using h l.reverse
/-- All that can be said behind entries that fit. -/
theorem Lg.Good.adds {g : Lg} (h : g.Good) : ∀ (l : List Ent), okSeq g.topTerm l = true → g.ents.length + l.length ≤ 4096 →
    (g.adds l).Good ∧ (g.adds l).ents = g.ents ++ l ∧ (g.adds l).topTerm = lastT g.topTerm l ∧ (g.adds l).a = g.a ∧ (g.adds l).t = g.t ∧ (g.adds l).m = g.m := by
  refine snoc_ind ?_ ?_
  · intro _ _; exact ⟨h, by simp [Lg.adds], rfl, rfl, rfl, rfl⟩
  · intro l e ih hok hlen
    rw [okSeq_snoc] at hok
    simp only [Bool.and_eq_true, decide_eq_true_eq] at hok
    obtain ⟨h1, h2, h3, h4, h5, h6⟩ := ih hok.1.1 (by simp at hlen; omega)
    rw [← h3] at hok
    have hl : (g.adds l).ents.length < 4096 := by rw [h2]; simp at hlen ⊢; omega
    obtain ⟨a1, a2, a3⟩ := h1.add hok.1.2 hok.2 hl
    rw [Lg.adds_snoc]
    refine ⟨a1, by rw [a2, h2]; simp, by rw [a3, lastT_snoc], h4, h5, h6⟩
end Go.Proofs.Ytoaoldhajpbenaa

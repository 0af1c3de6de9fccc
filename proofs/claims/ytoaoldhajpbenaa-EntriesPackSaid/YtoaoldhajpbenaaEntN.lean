/- A log is its floor and its list of entries: runs are theirs alone. Joins, as plain lists. Plain Lean, no program. -/
import Derived.Test.YtoaoldhajpbenaaEntG
import Derived.Test.YtoaoldhajpbenaaEntM
import Derived.Test.YtoaoldhajpbenaaEntF
namespace Go.Proofs.Ytoaoldhajpbenaa

theorem Chain.headAll {p t : Int} : ∀ {rs : List (Int × List Ent)} {e : Ent} {es : List Ent}, Chain p t rs → allOf rs = e :: es → t ≤ e.term
  | [], e, es, _, h => by simp [allOf] at h
  | (f, []) :: rs, e, es, ⟨_, h2, _⟩, _ => absurd rfl h2
  | (f, x :: l) :: rs, e, es, ⟨_, _, _, h4, _⟩, h => by
    simp [allOf_cons] at h
    rw [← h.1]; exact h4

theorem Chain.uniq_le {l l' us : List Ent} {f : Int} {rs : List (Int × List Ent)} {X : List Ent} (hl : l ≠ []) (h3 : ∀ e ∈ l', e.term = headTerm l' ∧ rightB e = true)
    (h5 : Chain f (headTerm l + 1) rs) (e1 : l' = l ++ us) (e2 : allOf rs = us ++ X) : us = [] := by
  cases us with
  | nil => rfl
  | cons a us =>
    exfalso
    have t1 := h5.headAll (by rw [e2]; rfl)
    have t2 := (h3 a (by rw [e1]; simp)).1
    have t3 : headTerm l' = headTerm l := by
      rw [e1]
      cases l with
      | nil => exact absurd rfl hl
      | cons b l => rfl
    omega

theorem Chain.uniq {p t t' : Int} : ∀ {rs qs : List (Int × List Ent)}, Chain p t rs → Chain p t' qs → allOf rs = allOf qs → rs = qs
  | [], [], _, _, _ => rfl
  | [], (f, l) :: qs, _, ⟨_, h2, _⟩, h => by simp [allOf] at h; exact absurd h.1 h2
  | (f, l) :: rs, [], ⟨_, h2, _⟩, _, h => by simp [allOf] at h; exact absurd h.1 h2
  | (f, l) :: rs, (f', l') :: qs, ⟨h1, h2, h3, h4, h5⟩, ⟨k1, k2, k3, k4, k5⟩, h => by
    simp only [allOf_cons] at h
    have e : l = l' ∧ allOf rs = allOf qs := by
      rcases List.append_eq_append_iff.1 h with ⟨us, e1, e2⟩ | ⟨us, e1, e2⟩
      · obtain rfl := Chain.uniq_le h2 k3 h5 e1 e2
        exact ⟨by simpa using e1.symm, by simpa using e2⟩
      · obtain rfl := Chain.uniq_le k2 h3 k5 e1 e2
        exact ⟨by simpa using e1, by simpa using e2.symm⟩
    obtain ⟨rfl, e⟩ := e
    subst h1 k1
    rw [Chain.uniq h5 k5 e]

theorem Lg.Good.ext {g h : Lg} (hg : g.Good) (hh : h.Good) (ha : g.a = h.a) (ht : g.t = h.t) (hm : g.m = h.m) (he : g.ents = h.ents) : g = h := by
  have c1 := hg.chain
  have c2 := hh.chain
  cases g with | mk a t m rs =>
  cases h with | mk a' t' m' rs' =>
  simp only at ha ht hm c1 c2
  subst ha ht hm
  rw [Chain.uniq c1 c2 he]

/-- The log over a floor with these entries. -/
def Lg.of (a t m : Int) (es : List Ent) : Lg := (Lg.mk a t m []).adds es
theorem Lg.of_nil (a t m : Int) : Lg.of a t m [] = Lg.mk a t m [] := rfl
theorem Lg.of_adds (a t m : Int) (es fs : List Ent) : (Lg.of a t m es).adds fs = Lg.of a t m (es ++ fs) := by simp [Lg.of, Lg.adds]

structure FloorOk (a t m : Int) : Prop where
  a0 : 0 ≤ a
  a1 : a ≤ 1099511627776
  t0 : 0 ≤ t
  t1 : t ≤ 1099511627776
  m0 : 1 ≤ m
  m1 : m ≤ 31
theorem FloorOk.base {a t m : Int} (h : FloorOk a t m) : (Lg.mk a t m []).Good := ⟨h.a0, h.a1, h.t0, h.t1, h.m0, h.m1, trivial, by simp [Lg.ents, allOf]⟩
theorem Lg.Good.floor {g : Lg} (h : g.Good) : FloorOk g.a g.t g.m := ⟨h.a0, h.a1, h.t0, h.t1, h.m0, h.m1⟩

theorem FloorOk.of {a t m : Int} (h : FloorOk a t m) {es : List Ent} (hok : okSeq t es = true) (hl : es.length ≤ 4096) :
    (Lg.of a t m es).Good ∧ (Lg.of a t m es).ents = es ∧ (Lg.of a t m es).topTerm = lastT t es ∧ (Lg.of a t m es).a = a ∧ (Lg.of a t m es).t = t ∧ (Lg.of a t m es).m = m := by
  have := h.base.adds es (by simpa [Lg.topTerm] using hok) (by simpa [Lg.ents, allOf] using hl)
  simpa [Lg.of, Lg.ents, allOf, Lg.topTerm] using this

theorem okSeq_le {t t' : Int} (h : t ≤ t') : ∀ {l : List Ent}, okSeq t' l = true → okSeq t l = true
  | [], _ => rfl
  | e :: es, hk => by
    simp only [okSeq, Bool.and_eq_true, decide_eq_true_eq] at hk ⊢
    exact ⟨⟨hk.1.1, by omega⟩, hk.2⟩
theorem lastT_cons (t : Int) (e : Ent) (es : List Ent) : lastT t (e :: es) = lastT e.term es := by
  unfold lastT
  rw [List.getLast?_cons]
  cases es.getLast? <;> rfl
theorem okSeq_append {t : Int} : ∀ {l m : List Ent}, okSeq t (l ++ m) = (okSeq t l && okSeq (lastT t l) m)
  | [], m => by simp [okSeq, lastT]
  | e :: es, m => by
    simp only [List.cons_append, okSeq, okSeq_append (t := e.term) (l := es), lastT_cons, Bool.and_assoc]
theorem okSeq_run {T : Int} : ∀ {t : Int} {l : List Ent}, t ≤ T → (∀ e ∈ l, e.term = T ∧ rightB e = true) → okSeq t l = true ∧ (l ≠ [] → lastT t l = T)
  | t, [], h, _ => ⟨rfl, fun h => absurd rfl h⟩
  | t, e :: es, h, hl => by
    obtain ⟨h1, h2⟩ := hl e (by simp)
    have ih := okSeq_run (t := e.term) (l := es) (by omega) (fun x hx => hl x (by simp [hx]))
    refine ⟨?_, fun _ => ?_⟩
    · simp only [okSeq, Bool.and_eq_true, decide_eq_true_eq]
      exact ⟨⟨h2, by omega⟩, ih.1⟩
    · rw [lastT_cons]
      cases es with
      | nil => simpa [lastT] using h1
      | cons x xs => exact ih.2 (by simp)
theorem Chain.okSeq {p t : Int} : ∀ {rs : List (Int × List Ent)}, Chain p t rs → okSeq t (allOf rs) = true
  | [], _ => rfl
  | (f, l) :: rs, ⟨h1, h2, h3, h4, h5⟩ => by
    rw [allOf_cons, okSeq_append]
    obtain ⟨k1, k2⟩ := okSeq_run h4 h3
    rw [k1, k2 h2, okSeq_le (by omega) (Chain.okSeq h5)]; rfl

theorem Lg.Good.okEnts {g : Lg} (h : g.Good) : okSeq g.t g.ents = true := h.chain.okSeq
theorem Lg.Good.eq_of {g : Lg} (h : g.Good) : g = Lg.of g.a g.t g.m g.ents := by
  obtain ⟨h1, h2, h3, h4, h5, h6⟩ := h.floor.of h.okEnts h.len
  exact h.ext h1 h4.symm h5.symm h6.symm h2.symm
theorem okSeq_take {t : Int} {l : List Ent} (k : Nat) (h : okSeq t l = true) : okSeq t (l.take k) = true := by
  cases hk : okSeq t (l.take k) with
  | true => rfl
  | false => rw [okSeq_take_false k hk] at h; cases h

theorem Chain.cut {p t : Int} : ∀ {rs : List (Int × List Ent)}, Chain p t rs → ∀ (j : Nat) (hj : j < rs.length) (k : Nat), 1 ≤ k → Chain p t (rs.take j ++ [(rs[j].1, rs[j].2.take k)])
  | [], _, j, hj, _, _ => by simp at hj
  | (f, []) :: rs, ⟨_, h2, _⟩, _, _, _, _ => absurd rfl h2
  | (f, x :: l) :: rs, ⟨h1, h2, h3, h4, h5⟩, 0, _, k + 1, _ => by
    refine ⟨h1, by simp, fun e he => ?_, h4, trivial⟩
    exact h3 e (List.mem_of_mem_take he)
  | (f, l) :: rs, ⟨h1, h2, h3, h4, h5⟩, j + 1, hj, k, hk => by
    simp only [List.take_succ_cons, List.cons_append]
    exact ⟨h1, h2, h3, h4, Chain.cut h5 j (by simpa using hj) k hk⟩

/-- The log up to a place. -/
def Lg.upto (g : Lg) (n : Int) : Lg := Lg.of g.a g.t g.m (g.ents.take (n - g.a).toNat)

theorem Lg.Good.upto {g : Lg} (h : g.Good) (n : Int) : (g.upto n).Good ∧ (g.upto n).ents = g.ents.take (n - g.a).toNat ∧ (g.upto n).topTerm = lastT g.t (g.ents.take (n - g.a).toNat) ∧ (g.upto n).a = g.a ∧ (g.upto n).t = g.t ∧ (g.upto n).m = g.m :=
  h.floor.of (okSeq_take _ h.okEnts) (by have := h.len; simp; omega)

theorem take_two (A l R : List Ent) (k : Nat) (h : k ≤ l.length) : (A ++ (l ++ R)).take (A.length + k) = A ++ l.take k := by
  rw [List.take_append, List.take_of_length_le (by omega), Nat.add_sub_cancel_left, List.take_append_of_le_length h]

theorem Lg.Good.cutAt {g : Lg} (h : g.Good) {n : Int} {j : Nat} (hj : j < g.rs.length) (h1 : g.rs[j].1 ≤ n) (h2 : n ≤ g.rs[j].1 + g.rs[j].2.length - 1) : g.cutAt j n = g.upto n := by
  obtain ⟨a1, a2, a3, a4⟩ := h.chain.at j hj
  have hcut : g.cutAt j n = Lg.mk g.a g.t g.m (g.rs.take j ++ [(g.rs[j].1, g.rs[j].2.take (n - g.rs[j].1 + 1).toNat)]) := by
    unfold Lg.cutAt; rw [List.getElem?_eq_getElem hj]
  have hch := h.chain.cut j hj (n - g.rs[j].1 + 1).toNat (by omega)
  have hents : allOf (g.rs.take j ++ [(g.rs[j].1, g.rs[j].2.take (n - g.rs[j].1 + 1).toNat)]) = g.ents.take (n - g.a).toNat := by
    have e0 := take_at g.rs j hj
    have e1 : (n - g.a).toNat = (allOf (g.rs.take j)).length + (n - g.rs[j].1 + 1).toNat := by omega
    show _ = (allOf g.rs).take _
    rw [e0, allOf_append, e1, take_two _ _ _ _ (by omega)]
    simp [allOf]
  obtain ⟨u1, u2, -, u4, u5, u6⟩ := h.upto n
  refine Lg.Good.ext ?_ u1 (by rw [hcut, u4]) (by rw [hcut, u5]) (by rw [hcut, u6]) (by rw [hcut, u2]; exact hents)
  rw [hcut]
  refine ⟨h.a0, h.a1, h.t0, h.t1, h.m0, h.m1, hch, ?_⟩
  show (allOf _).length ≤ 4096
  have := h.len
  rw [hents]; simp; omega

theorem Lg.upto_floor (g : Lg) : g.upto g.a = Lg.mk g.a g.t g.m [] := by simp [Lg.upto, Lg.of, Lg.adds]

theorem lastT_take {t : Int} {l : List Ent} {k : Nat} (h0 : 0 < k) (h : k ≤ l.length) : lastT t (l.take k) = (l[k - 1]'(by omega)).term := by
  obtain ⟨k, rfl⟩ : ∃ i, k = i + 1 := ⟨k - 1, by omega⟩
  have e : l[k + 1 - 1]'(by omega) = l[k]'(by omega) := rfl
  rw [e, List.take_succ_eq_append_getElem (by omega), lastT_snoc]
/-- The term of a place is the top's term of the log up to there. -/
theorem Lg.Good.uptoTerm {g : Lg} {n : Int} (h1 : g.a ≤ n) (h2 : n ≤ g.top) : lastT g.t (g.ents.take (n - g.a).toNat) = g.termAt n := by
  unfold Lg.termAt
  by_cases hn : n = g.a
  · subst hn; simp [lastT]
  · rw [if_neg hn, if_pos ⟨by omega, h2⟩]
    have hl : (n - g.a).toNat ≤ g.ents.length := by unfold Lg.top at h2; omega
    rw [lastT_take (by omega) hl]
    have e : (n - g.a - 1).toNat = (n - g.a).toNat - 1 := by omega
    rw [e, List.getElem?_eq_getElem (by omega)]; rfl

/-! ### Join -/

/-- How many entries a log has already. -/
def skipN (g : Lg) : Int → List Ent → Nat
  | _, [] => 0
  | at_, e :: l => if 0 ≤ e.term ∧ g.termAt (at_ + 1) = e.term then skipN g (at_ + 1) l + 1 else 0
theorem skipN_le (g : Lg) : ∀ (at_ : Int) (l : List Ent), skipN g at_ l ≤ l.length
  | _, [] => Nat.le_refl _
  | at_, e :: l => by
    have := skipN_le g (at_ + 1) l
    simp only [skipN, List.length_cons]; split <;> omega
/-- What comes of a join: the log's entries, if there is one. -/
structure Jn where
  log : Option (List Ent)
  yes : Bool
  fin : Int
  from_ : Int
  back : Int
def Lg.joinGo (g : Lg) (at_ : Int) (l : List Ent) : Jn :=
  let k := skipN g at_ l
  if l.length ≤ k then ⟨some g.ents, true, at_ + l.length, 0, 0⟩
  else if okSeq (g.termAt (at_ + k)) (l.drop k) = true ∧ at_ + l.length - g.a ≤ 4096 then
    ⟨some (g.ents.take (at_ + k - g.a).toNat ++ l.drop k), true, at_ + l.length, at_ + k + 1, 0⟩
  else ⟨none, false, 0, 0, at_ + k⟩
def Lg.join (g : Lg) (at_ term : Int) (l : List Ent) : Jn :=
  if g.a ≤ at_ then
    if g.termAt at_ < 0 ∨ g.termAt at_ ≠ term then ⟨none, false, 0, 0, g.back at_⟩ else g.joinGo at_ l
  else if l.length ≤ g.a - at_ then ⟨none, false, 0, 0, g.a⟩
  else g.joinGo g.a (l.drop (g.a - at_).toNat)
theorem Lg.termAt_in {g : Lg} {n : Int} (h : 0 ≤ g.termAt n) : g.a ≤ n ∧ n ≤ g.top := by
  rcases Int.lt_or_le n g.a with h1 | h1
  · rw [Lg.termAt_none (.inl h1)] at h; omega
  · rcases Int.lt_or_le g.top n with h2 | h2
    · rw [Lg.termAt_none (.inr h2)] at h; omega
    · exact ⟨h1, h2⟩
theorem skipN_in (g : Lg) : ∀ (at_ : Int) (l : List Ent), g.a ≤ at_ → at_ ≤ g.top → at_ + skipN g at_ l ≤ g.top
  | _, [], _, h => by simpa [skipN] using h
  | at_, e :: l, h1, h2 => by
    simp only [skipN]
    split
    · rename_i h
      have hi := Lg.termAt_in (g := g) (n := at_ + 1) (by omega)
      have := skipN_in g (at_ + 1) l (by omega) hi.2
      omega
    · simpa using h2
end Go.Proofs.Ytoaoldhajpbenaa

/- Who the members are, a higher floor: as plain lists. Plain Lean, no program. -/
import Derived.Test.YtoaoldhajpbenaaEntAA
namespace Go.Proofs.Ytoaoldhajpbenaa

/-- What a Config says. -/
def Ent.mask (e : Ent) : Int := ((e.cmd.headD 0).toNat : Int)
/-- The last Config among the first k entries, the first of which is at place p, at or below n. -/
def cfg (p n : Int) (es : List Ent) : Nat → Option (Int × Int)
  | 0 => none
  | k + 1 => match es[k]? with
    | some e => if p + k ≤ n ∧ e.kind = 2 then some (p + k, e.mask) else cfg p n es k
    | none => cfg p n es k
theorem cfg_succ {p n : Int} {es : List Ent} {k : Nat} (h : k < es.length) : cfg p n es (k + 1) = if p + k ≤ n ∧ es[k].kind = 2 then some (p + k, es[k].mask) else cfg p n es k := by
  show (match es[k]? with | some e => if p + k ≤ n ∧ e.kind = 2 then some (p + k, e.mask) else cfg p n es k | none => cfg p n es k) = _
  rw [List.getElem?_eq_getElem h]
theorem cfg_left (p n : Int) (A B : List Ent) : ∀ k, k ≤ A.length → cfg p n (A ++ B) k = cfg p n A k
  | 0, _ => rfl
  | k + 1, h => by
    rw [cfg_succ (by simp; omega), cfg_succ h, cfg_left p n A B k (by omega), List.getElem_append_left h]
theorem cfg_right (p n : Int) (A B : List Ent) : ∀ k, k ≤ B.length → cfg p n (A ++ B) (A.length + k) = (cfg (p + A.length) n B k).or (cfg p n A A.length)
  | 0, _ => by simpa [cfg] using cfg_left p n A B A.length (Nat.le_refl _)
  | k + 1, h => by
    rw [← Nat.add_assoc, cfg_succ (by simp; omega), cfg_succ h, cfg_right p n A B k (by omega)]
    have e : (A ++ B)[A.length + k]'(by simp; omega) = B[k] := by simp
    have e2 : p + ((A.length + k : Nat) : Int) = p + A.length + k := by omega
    rw [e, e2]
    split <;> rfl
theorem cfg_kind {p n : Int} {es : List Ent} (h : ∀ e ∈ es, rightB e = true) : ∀ {k : Nat} {x : Int × Int}, cfg p n es k = some x → 1 ≤ x.2 ∧ x.2 ≤ 31
  | 0, x, hx => by cases hx
  | k + 1, x, hx => by
    by_cases hk : k < es.length
    · rw [cfg_succ hk] at hx
      split at hx
      · rename_i hc
        have hr := h es[k] (List.getElem_mem hk)
        injection hx with hx
        subst hx
        simp only [rightB, Bool.and_eq_true, Bool.or_eq_true, decide_eq_true_eq, maskB] at hr
        simp only [Ent.mask]
        omega
      · exact cfg_kind h hx
    · have : cfg p n es (k + 1) = cfg p n es k := by
        show (match es[k]? with | some e => if p + k ≤ n ∧ e.kind = 2 then some (p + k, e.mask) else cfg p n es k | none => cfg p n es k) = _
        rw [List.getElem?_eq_none (by omega)]
      rw [this] at hx
      exact cfg_kind h hx
/-- Places above n count for nothing. -/
theorem cfg_above {p n : Int} {es : List Ent} : ∀ (j k : Nat), j ≤ k → k ≤ es.length → (n < p + j) → cfg p n es k = cfg p n es j
  | j, 0, h, _, _ => by
    obtain rfl : j = 0 := by omega
    rfl
  | j, k + 1, h, hl, hn => by
    by_cases hj : j = k + 1
    · rw [hj]
    · rw [cfg_succ (by omega), if_neg (by omega), cfg_above j k (by omega) (by omega) hn]
/-- Places at or below both bounds count alike. -/
theorem cfg_below {p n m : Int} {es : List Ent} : ∀ (k : Nat), k ≤ es.length → p + k ≤ n + 1 → p + k ≤ m + 1 → cfg p n es k = cfg p m es k
  | 0, _, _, _ => rfl
  | k + 1, h, hn, hm => by
    rw [cfg_succ (n := n) (by omega), cfg_succ (n := m) (by omega), cfg_below (n := n) (m := m) k (by omega) (by omega) (by omega)]
    by_cases hk : es[k].kind = 2
    · rw [if_pos ⟨by omega, hk⟩, if_pos ⟨by omega, hk⟩]
    · rw [if_neg (fun h => hk h.2), if_neg (fun h => hk h.2)]

/-- What 'change' answers. -/
def Lg.change (g : Lg) (n : Int) : Option (Int × Int) := cfg (g.a + 1) n g.ents g.ents.length
/-- Who the members are. -/
def Lg.memAt (g : Lg) (n : Int) : Int := if n < g.a ∨ g.top < n then 0 else match g.change n with
  | some x => x.2
  | none => g.m
/-- With the floor at a place. -/
def Lg.over (g : Lg) (n : Int) : Lg := Lg.of n (g.termAt n) (g.memAt n) (g.ents.drop (n - g.a).toNat)

theorem Lg.Good.memAt {g : Lg} (h : g.Good) {n : Int} (h1 : g.a ≤ n) (h2 : n ≤ g.top) : 1 ≤ g.memAt n ∧ g.memAt n ≤ 31 := by
  unfold Lg.memAt
  rw [if_neg (by omega)]
  cases hc : g.change n with
  | none => exact ⟨h.m0, h.m1⟩
  | some x => exact cfg_kind (okSeq_right h.okEnts) hc
theorem Lg.Good.term_le {g : Lg} (h : g.Good) {n : Int} : g.termAt n ≤ 1099511627776 := by
  by_cases hn : n = g.a
  · subst hn; rw [Lg.Good.termAt_ground]; exact h.t1
  · by_cases hin : g.a ≤ n ∧ n ≤ g.top
    · obtain ⟨i, rfl⟩ : ∃ i : Nat, n = g.a + i + 1 := ⟨(n - g.a - 1).toNat, by omega⟩
      have hi : i < g.ents.length := by have := hin.2; unfold Lg.top at this; omega
      rw [Lg.termAt_get i hi]
      have := okSeq_right h.okEnts _ (List.getElem_mem hi)
      simp only [rightB, Bool.and_eq_true, decide_eq_true_eq, mayB] at this
      omega
    · rw [Lg.termAt_none (by omega)]; omega

/-- The terms, who the members are, what lies above: as they were. -/
theorem Lg.Good.over {g : Lg} (h : g.Good) {n : Int} (h1 : g.a ≤ n) (h2 : n ≤ g.top) (h3 : n ≤ 1099511627776) :
    (g.over n).Good ∧ (g.over n).ents = g.ents.drop (n - g.a).toNat ∧ (g.over n).a = n ∧ (g.over n).t = g.termAt n ∧ (g.over n).m = g.memAt n ∧ (g.over n).top = g.top := by
  have hm := h.memAt h1 h2
  have hf : FloorOk n (g.termAt n) (g.memAt n) := ⟨by have := h.a0; omega, h3, h.term_pos h1 h2, h.term_le, hm.1, hm.2⟩
  have hok : okSeq (g.termAt n) (g.ents.drop (n - g.a).toNat) = true := by
    have := h.okEnts
    rw [← List.take_append_drop (n - g.a).toNat g.ents, okSeq_append, Bool.and_eq_true, Lg.Good.uptoTerm h1 h2] at this
    exact this.2
  obtain ⟨g1, g2, -, g4, g5, g6⟩ := hf.of hok (by have := h.len; simp; omega)
  refine ⟨g1, g2, g4, g5, g6, ?_⟩
  show (g.over n).a + ((g.over n).ents.length : Int) = g.a + g.ents.length
  have e1 : (g.over n).ents.length = g.ents.length - (n - g.a).toNat := by rw [show (g.over n).ents = _ from g2]; simp
  rw [show (g.over n).a = n from g4, e1]
  unfold Lg.top at h2
  omega
theorem Lg.Good.over_term {g : Lg} (h : g.Good) {n k : Int} (h1 : g.a ≤ n) (h2 : n ≤ g.top) (h3 : n ≤ 1099511627776) (hk : n ≤ k) : (g.over n).termAt k = g.termAt k := by
  obtain ⟨g1, g2, g4, g5, g6, g7⟩ := h.over h1 h2 h3
  by_cases hkn : k = n
  · subst hkn
    have := Lg.Good.termAt_ground (g := g.over k)
    rw [g4] at this
    rw [this, g5]
  · by_cases hkt : k ≤ g.top
    · obtain ⟨i, rfl⟩ : ∃ i : Nat, k = n + i + 1 := ⟨(k - n - 1).toNat, by omega⟩
      have ha := Lg.termAt_get (g := g) ((n - g.a).toNat + i) (by unfold Lg.top at hkt; omega)
      have hb := Lg.termAt_get (g := g.over n) i (by rw [g2]; unfold Lg.top at hkt; simp; omega)
      rw [g4] at hb
      have e : g.a + (((n - g.a).toNat + i : Nat) : Int) + 1 = n + i + 1 := by omega
      rw [e] at ha
      rw [ha, hb]
      congr 1
      simp only [g2, List.getElem_drop]
    · rw [Lg.termAt_none (.inr (by omega)), Lg.termAt_none (.inr (by omega))]
theorem Lg.Good.over_mem {g : Lg} (h : g.Good) {n k : Int} (h1 : g.a ≤ n) (h2 : n ≤ g.top) (h3 : n ≤ 1099511627776) (hk : n ≤ k) : (g.over n).memAt k = g.memAt k := by
  obtain ⟨g1, g2, g4, g5, g6, g7⟩ := h.over h1 h2 h3
  by_cases hkt : k ≤ g.top
  · have hgk : g.memAt k = match g.change k with | some x => x.2 | none => g.m := by unfold Lg.memAt; rw [if_neg (by omega)]
    have hgn : g.memAt n = match g.change n with | some x => x.2 | none => g.m := by unfold Lg.memAt; rw [if_neg (by omega)]
    have hok : (g.over n).memAt k = match (g.over n).change k with | some x => x.2 | none => g.memAt n := by
      rw [← g6]; conv => lhs; unfold Lg.memAt
      rw [if_neg (by omega)]
    obtain ⟨d, hd⟩ : ∃ d, (n - g.a).toNat = d := ⟨_, rfl⟩
    have hdl : d ≤ g.ents.length := by unfold Lg.top at h2; omega
    have hlen : g.ents.length = (g.ents.take d).length + (g.ents.drop d).length := by simp; omega
    have key : ∀ m, n ≤ m → g.change m = (cfg (n + 1) m (g.ents.drop d) (g.ents.drop d).length).or (cfg (g.a + 1) n (g.ents.take d) d) := by
      intro m hm
      have e1 := cfg_right (g.a + 1) m (g.ents.take d) (g.ents.drop d) (g.ents.drop d).length (Nat.le_refl _)
      rw [List.take_append_drop, ← hlen] at e1
      have e2 : (g.ents.take d).length = d := by simp; omega
      rw [e2] at e1
      have e3 : g.a + 1 + (d : Int) = n + 1 := by omega
      rw [e3] at e1
      unfold Lg.change
      rw [e1, cfg_below d (by omega) (n := m) (m := n) (by omega) (by omega)]
    have hn0 : cfg (n + 1) n (g.ents.drop d) (g.ents.drop d).length = none := by
      rw [cfg_above 0 _ (Nat.zero_le _) (Nat.le_refl _) (by omega)]; rfl
    have hch : (g.over n).change k = cfg (n + 1) k (g.ents.drop d) (g.ents.drop d).length := by
      unfold Lg.change; rw [g2, g4, hd]
    rw [hok, hgk, hgn, hch, key k hk, key n (Int.le_refl _), hn0]
    cases cfg (n + 1) k (g.ents.drop d) (g.ents.drop d).length <;> simp [Option.or]
  · unfold Lg.memAt
    rw [if_pos (.inr (by omega)), if_pos (.inr (by omega))]
theorem Lg.Good.over_slice {g : Lg} (h : g.Good) {n k : Int} (m : Int) (h1 : g.a ≤ n) (h2 : n ≤ g.top) (h3 : n ≤ 1099511627776) (hk : n ≤ k) : (g.over n).slice (k + 1) m = g.slice (k + 1) m := by
  obtain ⟨g1, g2, g4, g5, g6, g7⟩ := h.over h1 h2 h3
  unfold Lg.slice
  rw [g4, g7, g2]
  by_cases hkt : k + 1 ≤ g.top
  · rw [if_pos ⟨by omega, hkt⟩, if_pos ⟨by omega, hkt⟩, List.drop_drop]
    congr 2
    omega
  · rw [if_neg (by omega), if_neg (by omega)]
theorem Lg.Good.over_under {g : Lg} (h : g.Good) {n : Int} (h1 : g.a ≤ n) (h2 : n ≤ g.top) (h3 : n ≤ 1099511627776) : (g.over n).termAt (n - 1) = -1 := by
  obtain ⟨g1, g2, g4, g5, g6, g7⟩ := h.over h1 h2 h3
  exact Lg.termAt_none (.inl (by omega))

/-- The parts that 'Over' makes, at the floor. -/
theorem Lg.Good.over_floor {g : Lg} (h : g.Good) : g.over g.a = Lg.mk g.a (g.termAt g.a) (g.memAt g.a) g.rs := by
  obtain ⟨g1, g2, g4, g5, g6, g7⟩ := h.over (n := g.a) (Int.le_refl _) (by unfold Lg.top; omega) h.a1
  have hm := h.memAt (n := g.a) (Int.le_refl _) (by unfold Lg.top; omega)
  refine Lg.Good.ext g1 ?_ g4 g5 g6 (by rw [g2]; simp [Lg.ents])
  exact ⟨h.a0, h.a1, by rw [Lg.Good.termAt_ground]; exact h.t0, by rw [Lg.Good.termAt_ground]; exact h.t1, hm.1, hm.2, by rw [Lg.Good.termAt_ground]; exact h.chain, h.len⟩
theorem Chain.from_ {p t : Int} : ∀ {rs : List (Int × List Ent)}, Chain p t rs → ∀ j (hj : j < rs.length), Chain (rs[j].1 + rs[j].2.length) (headTerm rs[j].2 + 1) (rs.drop (j + 1))
  | [], _, j, hj => by simp at hj
  | (f, l) :: rs, ⟨h1, h2, h3, h4, h5⟩, 0, _ => by simpa using h5
  | (f, l) :: rs, ⟨h1, h2, h3, h4, h5⟩, j + 1, hj => by simpa using Chain.from_ h5 j (by simpa using hj)
theorem Chain.weaken {p t t' : Int} (h : t ≤ t') : ∀ {rs : List (Int × List Ent)}, Chain p t' rs → Chain p t rs
  | [], _ => trivial
  | (f, l) :: rs, ⟨h1, h2, h3, h4, h5⟩ => ⟨h1, h2, h3, by omega, h5⟩
/-- .. and within a run. -/
theorem Lg.Good.over_run {g : Lg} (h : g.Good) {n : Int} {j : Nat} (hj : j < g.rs.length) (h1 : g.rs[j].1 ≤ n) (h2 : n ≤ g.rs[j].1 + g.rs[j].2.length - 1) (h3 : n ≤ 1099511627776) :
    g.over n = Lg.mk n (g.termAt n) (g.memAt n) ((if (g.rs[j].2.drop (n - g.rs[j].1 + 1).toNat) = [] then [] else [(n + 1, g.rs[j].2.drop (n - g.rs[j].1 + 1).toNat)]) ++ g.rs.drop (j + 1)) := by
  obtain ⟨c1, c2, c3, c4⟩ := h.chain.at j hj
  have hall := take_at g.rs j hj
  have hlen := len_le_at g.rs j hj
  have ha : g.a ≤ n := by omega
  have ht : n ≤ g.top := by unfold Lg.top Lg.ents; omega
  obtain ⟨g1, g2, g4, g5, g6, g7⟩ := h.over ha ht h3
  have hm := h.memAt ha ht
  have hch := h.chain.from_ j hj
  have htm : g.termAt n = headTerm g.rs[j].2 := by
    refine h.termAt_run hj (by omega) ht h1 h2 ?_
    unfold Lg.ents
    rw [hall, List.getElem?_append_right (by omega), List.getElem?_append_left (by omega)]
    congr 1
    omega
  have hents : g.ents.drop (n - g.a).toNat = g.rs[j].2.drop (n - g.rs[j].1 + 1).toNat ++ allOf (g.rs.drop (j + 1)) := by
    unfold Lg.ents
    have e : (n - g.a).toNat = (allOf (g.rs.take j)).length + (n - g.rs[j].1 + 1).toNat := by omega
    rw [hall, e, List.drop_append, List.drop_eq_nil_of_le (by omega), List.nil_append, Nat.add_sub_cancel_left, List.drop_append_of_le_length (by omega)]
  have hg : ∀ rs', allOf rs' = g.ents.drop (n - g.a).toNat → Chain (n + 1) (g.termAt n) rs' → g.over n = Lg.mk n (g.termAt n) (g.memAt n) rs' := by
    intro rs' he hc
    refine Lg.Good.ext g1 ⟨show (0 : Int) ≤ n by have := h.a0; omega, h3, h.term_pos ha ht, h.term_le, hm.1, hm.2, hc, ?_⟩ g4 g5 g6 ?_
    · show (allOf rs').length ≤ 4096
      have := h.len
      rw [he]; simp; omega
    · rw [g2]; exact he.symm
  refine hg _ ?_ ?_
  · rw [hents, allOf_append]
    split
    · rename_i he; simp [he, allOf]
    · simp [allOf]
  · obtain ⟨q, hq⟩ : ∃ q, (n - g.rs[j].1 + 1).toNat = q := ⟨_, rfl⟩
    rw [hq]
    by_cases he : g.rs[j].2.drop q = []
    · rw [if_pos he, List.nil_append]
      have hql : g.rs[j].2.length ≤ q := List.drop_eq_nil_iff.1 he
      have e : g.rs[j].1 + (g.rs[j].2.length : Int) = n + 1 := by omega
      rw [e] at hch
      rw [htm]
      exact Chain.weaken (by omega) hch
    · rw [if_neg he]
      have hql : q < g.rs[j].2.length := by
        rcases Nat.lt_or_ge q g.rs[j].2.length with h' | h'
        · exact h'
        · exact absurd (List.drop_eq_nil_of_le h') he
      have hhead : headTerm (g.rs[j].2.drop q) = headTerm g.rs[j].2 := by
        rw [List.drop_eq_getElem_cons hql]
        exact (c3 _ (List.getElem_mem hql)).1
      refine ⟨rfl, he, fun e hx => ?_, by rw [hhead, htm]; exact Int.le_refl _, ?_⟩
      · rw [hhead]; exact c3 e (List.mem_of_mem_drop hx)
      · rw [hhead]
        have e : n + 1 + ((g.rs[j].2.drop q).length : Int) = g.rs[j].1 + g.rs[j].2.length := by simp; omega
        rw [e]; exact hch
end Go.Proofs.Ytoaoldhajpbenaa

/- Texts that belong together, in one file: EntBp, EntIn, EntBc, EntX, EntAB, EntBd, RfD. No statement is proved here. -/
import Derived.Test.YtahagecdebadfaaGreatQEntAA
import Derived.Test.YtahagecdebadfaaGreatQEntM
import Derived.Test.YtahagecdebadfaaGreatQFldF
import Derived.Deep.RegionLaw
import Derived.Laws.IdiomStrings
import Derived.Deep.RegionWith
import Derived.Deep.RegionHeld3
namespace Go.Proofs.YtahagecdebadfaaGreat

/-- What a Config says. -/
def Ent.mask (e : Ent) : Int := ((e.cmd.headD 0).toNat : Int)
/-- The last Config among the first k entries, the first of which is at place p, at or below n. -/
def cfg (p n : Int) (es : List Ent) : Nat → Option (Int × Int)
  | 0 => none
  | k + 1 => match es[k]? with
    | some e => if p + k ≤ n ∧ e.kind = 2 then some (p + k, e.mask) else cfg p n es k
    | none => cfg p n es k
theorem cfg_succ {p n : Int} {es : List Ent} {k : Nat} (h : k < es.length) : cfg p n es (k + 1) = if p + k ≤ n ∧ es[k].kind = 2 then some (p + k, es[k].mask) else cfg p n es k := by
  show (match es[k]? with | some e => if p + k ≤ n ∧ e.kind = 2 then some (p + k, e.mask) else cfg p n es k | none => cfg p n es k) = _
  rw [List.getElem?_eq_getElem h]
theorem cfg_left (p n : Int) (A B : List Ent) : ∀ k, k ≤ A.length → cfg p n (A ++ B) k = cfg p n A k
  | 0, _ => rfl
  | k + 1, h => by
    rw [cfg_succ (by simp; omega), cfg_succ h, cfg_left p n A B k (by omega), List.getElem_append_left h]
theorem cfg_right (p n : Int) (A B : List Ent) : ∀ k, k ≤ B.length → cfg p n (A ++ B) (A.length + k) = (cfg (p + A.length) n B k).or (cfg p n A A.length)
  | 0, _ => by simpa [cfg] using cfg_left p n A B A.length (Nat.le_refl _)
  | k + 1, h => by
    rw [← Nat.add_assoc, cfg_succ (by simp; omega), cfg_succ h, cfg_right p n A B k (by omega)]
    have e : (A ++ B)[A.length + k]'(by simp; omega) = B[k] := by simp
    have e2 : p + ((A.length + k : Nat) : Int) = p + A.length + k := by omega
    rw [e, e2]
    split <;> rfl
theorem cfg_kind {p n : Int} {es : List Ent} (h : ∀ e ∈ es, rightB e = true) : ∀ {k : Nat} {x : Int × Int}, cfg p n es k = some x → 1 ≤ x.2 ∧ x.2 ≤ 31
  | 0, x, hx => by cases hx
  | k + 1, x, hx => by
    by_cases hk : k < es.length
    · rw [cfg_succ hk] at hx
      split at hx
      · rename_i hc
        have hr := h es[k] (List.getElem_mem hk)
        injection hx with hx
        subst hx
        simp only [rightB, Bool.and_eq_true, Bool.or_eq_true, decide_eq_true_eq, maskB] at hr
        simp only [Ent.mask]
        omega
      · exact cfg_kind h hx
    · have : cfg p n es (k + 1) = cfg p n es k := by
        show (match es[k]? with | some e => if p + k ≤ n ∧ e.kind = 2 then some (p + k, e.mask) else cfg p n es k | none => cfg p n es k) = _
        rw [List.getElem?_eq_none (by omega)]
      rw [this] at hx
      exact cfg_kind h hx
/-- Places above n count for nothing. -/
theorem cfg_above {p n : Int} {es : List Ent} : ∀ (j k : Nat), j ≤ k → k ≤ es.length → (n < p + j) → cfg p n es k = cfg p n es j
  | j, 0, h, _, _ => by
    obtain rfl : j = 0 := by omega
    rfl
  | j, k + 1, h, hl, hn => by
    by_cases hj : j = k + 1
    · rw [hj]
    · rw [cfg_succ (by omega), if_neg (by omega), cfg_above j k (by omega) (by omega) hn]
/-- Places at or below both bounds count alike. -/
theorem cfg_below {p n m : Int} {es : List Ent} : ∀ (k : Nat), k ≤ es.length → p + k ≤ n + 1 → p + k ≤ m + 1 → cfg p n es k = cfg p m es k
  | 0, _, _, _ => rfl
  | k + 1, h, hn, hm => by
    rw [cfg_succ (n := n) (by omega), cfg_succ (n := m) (by omega), cfg_below (n := n) (m := m) k (by omega) (by omega) (by omega)]
    by_cases hk : es[k].kind = 2
    · rw [if_pos ⟨by omega, hk⟩, if_pos ⟨by omega, hk⟩]
    · rw [if_neg (fun h => hk h.2), if_neg (fun h => hk h.2)]

/-- What 'change' answers. -/
def Lg.change (g : Lg) (n : Int) : Option (Int × Int) := cfg (g.a + 1) n g.ents g.ents.length
/-- Who the members are. -/
def Lg.memAt (g : Lg) (n : Int) : Int := if n < g.a ∨ g.top < n then 0 else match g.change n with
  | some x => x.2
  | none => g.m
/-- With the floor at a place. -/
def Lg.over (g : Lg) (n : Int) : Lg := Lg.of n (g.termAt n) (g.memAt n) (g.ents.drop (n - g.a).toNat)

theorem Lg.Good.memAt {g : Lg} (h : g.Good) {n : Int} (h1 : g.a ≤ n) (h2 : n ≤ g.top) : 1 ≤ g.memAt n ∧ g.memAt n ≤ 31 := by
  unfold Lg.memAt
  rw [if_neg (by omega)]
  cases hc : g.change n with
  | none => exact ⟨h.m0, h.m1⟩
  | some x => exact cfg_kind (okSeq_right h.okEnts) hc
theorem Lg.Good.term_le {g : Lg} (h : g.Good) {n : Int} : g.termAt n ≤ 1099511627776 := by
  by_cases hn : n = g.a
  · subst hn; rw [Lg.Good.termAt_ground]; exact h.t1
  · by_cases hin : g.a ≤ n ∧ n ≤ g.top
    · obtain ⟨i, rfl⟩ : ∃ i : Nat, n = g.a + i + 1 := ⟨(n - g.a - 1).toNat, by omega⟩
      have hi : i < g.ents.length := by have := hin.2; unfold Lg.top at this; omega
      rw [Lg.termAt_get i hi]
      have := okSeq_right h.okEnts _ (List.getElem_mem hi)
      simp only [rightB, Bool.and_eq_true, decide_eq_true_eq, mayB] at this
      omega
    · rw [Lg.termAt_none (by omega)]; omega

/-- The terms, who the members are, what lies above: as they were. -/
theorem Lg.Good.over {g : Lg} (h : g.Good) {n : Int} (h1 : g.a ≤ n) (h2 : n ≤ g.top) (h3 : n ≤ 1099511627776) :
    (g.over n).Good ∧ (g.over n).ents = g.ents.drop (n - g.a).toNat ∧ (g.over n).a = n ∧ (g.over n).t = g.termAt n ∧ (g.over n).m = g.memAt n ∧ (g.over n).top = g.top := by
  have hm := h.memAt h1 h2
  have hf : FloorOk n (g.termAt n) (g.memAt n) := ⟨by have := h.a0; omega, h3, h.term_pos h1 h2, h.term_le, hm.1, hm.2⟩
  have hok : okSeq (g.termAt n) (g.ents.drop (n - g.a).toNat) = true := by
    have := h.okEnts
    rw [← List.take_append_drop (n - g.a).toNat g.ents, okSeq_append, Bool.and_eq_true, Lg.Good.uptoTerm h1 h2] at this
    exact this.2
  obtain ⟨g1, g2, -, g4, g5, g6⟩ := hf.of hok (by have := h.len; simp; omega)
  refine ⟨g1, g2, g4, g5, g6, ?_⟩
  show (g.over n).a + ((g.over n).ents.length : Int) = g.a + g.ents.length
  have e1 : (g.over n).ents.length = g.ents.length - (n - g.a).toNat := by rw [show (g.over n).ents = _ from g2]; simp
  rw [show (g.over n).a = n from g4, e1]
  unfold Lg.top at h2
  omega
theorem Lg.Good.over_term {g : Lg} (h : g.Good) {n k : Int} (h1 : g.a ≤ n) (h2 : n ≤ g.top) (h3 : n ≤ 1099511627776) (hk : n ≤ k) : (g.over n).termAt k = g.termAt k := by
  obtain ⟨g1, g2, g4, g5, g6, g7⟩ := h.over h1 h2 h3
  by_cases hkn : k = n
  · subst hkn
    have := Lg.Good.termAt_ground (g := g.over k)
    rw [g4] at this
    rw [this, g5]
  · by_cases hkt : k ≤ g.top
    · obtain ⟨i, rfl⟩ : ∃ i : Nat, k = n + i + 1 := ⟨(k - n - 1).toNat, by omega⟩
      have ha := Lg.termAt_get (g := g) ((n - g.a).toNat + i) (by unfold Lg.top at hkt; omega)
      have hb := Lg.termAt_get (g := g.over n) i (by rw [g2]; unfold Lg.top at hkt; simp; omega)
      rw [g4] at hb
      have e : g.a + (((n - g.a).toNat + i : Nat) : Int) + 1 = n + i + 1 := by omega
      rw [e] at ha
      rw [ha, hb]
      congr 1
      simp only [g2, List.getElem_drop]
    · rw [Lg.termAt_none (.inr (by omega)), Lg.termAt_none (.inr (by omega))]
theorem Lg.Good.over_mem {g : Lg} (h : g.Good) {n k : Int} (h1 : g.a ≤ n) (h2 : n ≤ g.top) (h3 : n ≤ 1099511627776) (hk : n ≤ k) : (g.over n).memAt k = g.memAt k := by
  obtain ⟨g1, g2, g4, g5, g6, g7⟩ := h.over h1 h2 h3
  by_cases hkt : k ≤ g.top
  · have hgk : g.memAt k = match g.change k with | some x => x.2 | none => g.m := by unfold Lg.memAt; rw [if_neg (by omega)]
    have hgn : g.memAt n = match g.change n with | some x => x.2 | none => g.m := by unfold Lg.memAt; rw [if_neg (by omega)]
    have hok : (g.over n).memAt k = match (g.over n).change k with | some x => x.2 | none => g.memAt n := by
      rw [← g6]; conv => lhs; unfold Lg.memAt
      rw [if_neg (by omega)]
    obtain ⟨d, hd⟩ : ∃ d, (n - g.a).toNat = d := ⟨_, rfl⟩
    have hdl : d ≤ g.ents.length := by unfold Lg.top at h2; omega
    have hlen : g.ents.length = (g.ents.take d).length + (g.ents.drop d).length := by simp; omega
    have key : ∀ m, n ≤ m → g.change m = (cfg (n + 1) m (g.ents.drop d) (g.ents.drop d).length).or (cfg (g.a + 1) n (g.ents.take d) d) := by
      intro m hm
      have e1 := cfg_right (g.a + 1) m (g.ents.take d) (g.ents.drop d) (g.ents.drop d).length (Nat.le_refl _)
      rw [List.take_append_drop, ← hlen] at e1
      have e2 : (g.ents.take d).length = d := by simp; omega
      rw [e2] at e1
      have e3 : g.a + 1 + (d : Int) = n + 1 := by omega
      rw [e3] at e1
      unfold Lg.change
      rw [e1, cfg_below d (by omega) (n := m) (m := n) (by omega) (by omega)]
    have hn0 : cfg (n + 1) n (g.ents.drop d) (g.ents.drop d).length = none := by
      rw [cfg_above 0 _ (Nat.zero_le _) (Nat.le_refl _) (by omega)]; rfl
    have hch : (g.over n).change k = cfg (n + 1) k (g.ents.drop d) (g.ents.drop d).length := by
      unfold Lg.change; rw [g2, g4, hd]
    rw [hok, hgk, hgn, hch, key k hk, key n (Int.le_refl _), hn0]
    cases cfg (n + 1) k (g.ents.drop d) (g.ents.drop d).length <;> simp [Option.or]
  · unfold Lg.memAt
    rw [if_pos (.inr (by omega)), if_pos (.inr (by omega))]
theorem Lg.Good.over_slice {g : Lg} (h : g.Good) {n k : Int} (m : Int) (h1 : g.a ≤ n) (h2 : n ≤ g.top) (h3 : n ≤ 1099511627776) (hk : n ≤ k) : (g.over n).slice (k + 1) m = g.slice (k + 1) m := by
  obtain ⟨g1, g2, g4, g5, g6, g7⟩ := h.over h1 h2 h3
  unfold Lg.slice
  rw [g4, g7, g2]
  by_cases hkt : k + 1 ≤ g.top
  · rw [if_pos ⟨by omega, hkt⟩, if_pos ⟨by omega, hkt⟩, List.drop_drop]
    congr 2
    omega
  · rw [if_neg (by omega), if_neg (by omega)]
theorem Lg.Good.over_under {g : Lg} (h : g.Good) {n : Int} (h1 : g.a ≤ n) (h2 : n ≤ g.top) (h3 : n ≤ 1099511627776) : (g.over n).termAt (n - 1) = -1 := by
  obtain ⟨g1, g2, g4, g5, g6, g7⟩ := h.over h1 h2 h3
  exact Lg.termAt_none (.inl (by omega))

/-- The parts that 'Over' makes, at the floor. -/
theorem Lg.Good.over_floor {g : Lg} (h : g.Good) : g.over g.a = Lg.mk g.a (g.termAt g.a) (g.memAt g.a) g.rs := by
  obtain ⟨g1, g2, g4, g5, g6, g7⟩ := h.over (n := g.a) (Int.le_refl _) (by unfold Lg.top; omega) h.a1
  have hm := h.memAt (n := g.a) (Int.le_refl _) (by unfold Lg.top; omega)
  refine Lg.Good.ext g1 ?_ g4 g5 g6 (by rw [g2]; simp [Lg.ents])
  exact ⟨h.a0, h.a1, by rw [Lg.Good.termAt_ground]; exact h.t0, by rw [Lg.Good.termAt_ground]; exact h.t1, hm.1, hm.2, by rw [Lg.Good.termAt_ground]; exact h.chain, h.len⟩
theorem Chain.from_ {p t : Int} : ∀ {rs : List (Int × List Ent)}, Chain p t rs → ∀ j (hj : j < rs.length), Chain (rs[j].1 + rs[j].2.length) (headTerm rs[j].2 + 1) (rs.drop (j + 1))
  | [], _, j, hj => by simp at hj
  | (f, l) :: rs, ⟨h1, h2, h3, h4, h5⟩, 0, _ => by simpa using h5
  | (f, l) :: rs, ⟨h1, h2, h3, h4, h5⟩, j + 1, hj => by simpa using Chain.from_ h5 j (by simpa using hj)
theorem Chain.weaken {p t t' : Int} (h : t ≤ t') : ∀ {rs : List (Int × List Ent)}, Chain p t' rs → Chain p t rs
  | [], _ => trivial
  | (f, l) :: rs, ⟨h1, h2, h3, h4, h5⟩ => ⟨h1, h2, h3, by omega, h5⟩
/-- .. and within a run. -/
theorem Lg.Good.over_run {g : Lg} (h : g.Good) {n : Int} {j : Nat} (hj : j < g.rs.length) (h1 : g.rs[j].1 ≤ n) (h2 : n ≤ g.rs[j].1 + g.rs[j].2.length - 1) (h3 : n ≤ 1099511627776) :
    g.over n = Lg.mk n (g.termAt n) (g.memAt n) ((if (g.rs[j].2.drop (n - g.rs[j].1 + 1).toNat) = [] then [] else [(n + 1, g.rs[j].2.drop (n - g.rs[j].1 + 1).toNat)]) ++ g.rs.drop (j + 1)) := by
  obtain ⟨c1, c2, c3, c4⟩ := h.chain.at j hj
  have hall := take_at g.rs j hj
  have hlen := len_le_at g.rs j hj
  have ha : g.a ≤ n := by omega
  have ht : n ≤ g.top := by unfold Lg.top Lg.ents; omega
  obtain ⟨g1, g2, g4, g5, g6, g7⟩ := h.over ha ht h3
  have hm := h.memAt ha ht
  have hch := h.chain.from_ j hj
  have htm : g.termAt n = headTerm g.rs[j].2 := by
    refine h.termAt_run hj (by omega) ht h1 h2 ?_
    unfold Lg.ents
    rw [hall, List.getElem?_append_right (by omega), List.getElem?_append_left (by omega)]
    congr 1
    omega
  have hents : g.ents.drop (n - g.a).toNat = g.rs[j].2.drop (n - g.rs[j].1 + 1).toNat ++ allOf (g.rs.drop (j + 1)) := by
    unfold Lg.ents
    have e : (n - g.a).toNat = (allOf (g.rs.take j)).length + (n - g.rs[j].1 + 1).toNat := by omega
    rw [hall, e, List.drop_append, List.drop_eq_nil_of_le (by omega), List.nil_append, Nat.add_sub_cancel_left, List.drop_append_of_le_length (by omega)]
  have hg : ∀ rs', allOf rs' = g.ents.drop (n - g.a).toNat → Chain (n + 1) (g.termAt n) rs' → g.over n = Lg.mk n (g.termAt n) (g.memAt n) rs' := by
    intro rs' he hc
    refine Lg.Good.ext g1 ⟨show (0 : Int) ≤ n by have := h.a0; omega, h3, h.term_pos ha ht, h.term_le, hm.1, hm.2, hc, ?_⟩ g4 g5 g6 ?_
    · show (allOf rs').length ≤ 4096
      have := h.len
      rw [he]; simp; omega
    · rw [g2]; exact he.symm
  refine hg _ ?_ ?_
  · rw [hents, allOf_append]
    split
    · rename_i he; simp [he, allOf]
    · simp [allOf]
  · obtain ⟨q, hq⟩ : ∃ q, (n - g.rs[j].1 + 1).toNat = q := ⟨_, rfl⟩
    rw [hq]
    by_cases he : g.rs[j].2.drop q = []
    · rw [if_pos he, List.nil_append]
      have hql : g.rs[j].2.length ≤ q := List.drop_eq_nil_iff.1 he
      have e : g.rs[j].1 + (g.rs[j].2.length : Int) = n + 1 := by omega
      rw [e] at hch
      rw [htm]
      exact Chain.weaken (by omega) hch
    · rw [if_neg he]
      have hql : q < g.rs[j].2.length := by
        rcases Nat.lt_or_ge q g.rs[j].2.length with h' | h'
        · exact h'
        · exact absurd (List.drop_eq_nil_of_le h') he
      have hhead : headTerm (g.rs[j].2.drop q) = headTerm g.rs[j].2 := by
        rw [List.drop_eq_getElem_cons hql]
        exact (c3 _ (List.getElem_mem hql)).1
      refine ⟨rfl, he, fun e hx => ?_, by rw [hhead, htm]; exact Int.le_refl _, ?_⟩
      · rw [hhead]; exact c3 e (List.mem_of_mem_drop hx)
      · rw [hhead]
        have e : n + 1 + ((g.rs[j].2.drop q).length : Int) = g.rs[j].1 + g.rs[j].2.length := by simp; omega
        rw [e]; exact hch
end Go.Proofs.YtahagecdebadfaaGreat

namespace Go.Proofs.YtahagecdebadfaaGreat
open Go.RowKit Go.Shelf

theorem oper_inRound {F : Fence} {n : Nat} {P : Program} {Q : Exit → Act → World → Prop} {o : Oper} {a : Act} {w : World} {K : Act → World → Prop} (l : Nat) (hnd : ∀ c, o.op ≠ .defer c)
    (h : o.wpIn F n P a w K Q) : o.wpIn (F.inRound l) n P a w K Q := by
  unfold Oper.wpIn at *
  refine ⟨h.1, ?_⟩
  have h2 := h.2
  rw [Oper.semAt_eq _ _ _ hnd] at h2 ⊢
  exact h2
def noDefer (o : Oper) : Bool := match o.op with
  | .defer _ => false
  | _ => true
theorem noDefer_of {o : Oper} (h : noDefer o = true) (c : Call) : o.op ≠ .defer c := by
  intro e
  unfold noDefer at h
  rw [e] at h
  cases h
theorem wpAnyIn_inRound {F : Fence} {n : Nat} {P : Program} {md : Region.Mode} {ops : Array Oper} {Q : Exit → Act → World → Prop} (l : Nat) (hnd : ops.toList.all noDefer = true) :
    ∀ (fuel : Nat) (listed : Array Bool) (a : Act) (w : World), wpAnyIn F n P md ops Q fuel listed a w → wpAnyIn (F.inRound l) n P md ops Q fuel listed a w
  | 0, _, _, _, h => h
  | fuel + 1, listed, a, w, h => by
    refine ⟨h.1, fun i hi => ?_⟩
    have h2 := h.2 i hi
    have ih := wpAnyIn_inRound (F := F) (n := n) (P := P) (md := md) (Q := Q) l hnd fuel (listed.setIfInBounds i true)
    unfold wpOpIn at *
    split at h2
    · exact ih _ _ h2
    · rename_i o ho
      have hd := noDefer_of (List.all_eq_true.1 hnd o (by rw [Array.getElem?_eq_some_iff] at ho; obtain ⟨hlt, e⟩ := ho; rw [← e]; simp))
      split at h2
      · rename_i hw; rw [if_pos hw]
        exact oper_inRound l hd (Oper.wpIn_mono ih h2)
      · rename_i hw; rw [if_neg hw]
        exact ⟨h2.1, ih _ _ h2.2⟩
end Go.Proofs.YtahagecdebadfaaGreat

namespace Go.Proofs.YtahagecdebadfaaGreat
open Go.RowKit Go.Shelf
attribute [local go_sem] Oper.semAt_some

/-! Plain. -/
def NoneIn (g : Lg) (n : Int) (y : Nat) : Prop := ∃ (h : y < g.parts.length) (f : Int) (l : List Ent), g.parts[y] = .run f l ∧ cfg f n l l.length = none
theorem cfg_all_none {n : Int} : ∀ {p t : Int} {rs : List (Int × List Ent)}, Chain p t rs → (∀ j (h : j < rs.length), cfg rs[j].1 n rs[j].2 rs[j].2.length = none) → cfg p n (allOf rs) (allOf rs).length = none
  | p, t, [], _, _ => rfl
  | p, t, (f, l) :: rs, ⟨h1, h2, h3, h4, h5⟩, h => by
    have h0 := h 0 (by simp)
    have ih := cfg_all_none h5 fun j hj => h (j + 1) (by simpa using hj)
    rw [allOf_cons, List.length_append, cfg_right p n l (allOf rs) _ (Nat.le_refl _)]
    subst h1
    simp only [List.getElem_cons_zero] at h0
    rw [ih, h0]; rfl
theorem run_of_none {g : Lg} {n : Int} {j : Nat} (hj : j < g.rs.length) (h : NoneIn g n (j + 1)) : cfg g.rs[j].1 n g.rs[j].2 g.rs[j].2.length = none := by
  obtain ⟨hy, f, l, hp, hc⟩ := h
  rw [g.parts_succ j hj] at hp
  injection hp with h1 h2
  subst h1 h2
  exact hc
theorem change_none {g : Lg} (hg : g.Good) {n : Int} (h : ∀ y, 0 < y → y < g.parts.length → NoneIn g n y) : g.change n = none := by
  refine cfg_all_none hg.chain fun j hj => run_of_none hj (h (j + 1) (by omega) (by rw [g.parts_length]; omega))
theorem change_some {g : Lg} (hg : g.Good) {n : Int} {x : Nat} (hx : x < g.parts.length) (h : ∀ y, x < y → y < g.parts.length → NoneIn g n y) {f : Int} {l : List Ent} (hp : g.parts[x] = .run f l) {z : Int × Int} (hc : cfg f n l l.length = some z) :
    g.change n = some z := by
  cases x with
  | zero => rw [g.parts_zero] at hp; cases hp
  | succ j =>
    have hj : j < g.rs.length := by have := g.parts_length; omega
    rw [g.parts_succ j hj] at hp
    injection hp with h1 h2
    subst h1 h2
    have hR : cfg (g.rs[j].1 + g.rs[j].2.length) n (allOf (g.rs.drop (j + 1))) (allOf (g.rs.drop (j + 1))).length = none := by
      refine cfg_all_none (hg.chain.from_ j hj) fun i hi => ?_
      have hi' : j + 1 + i < g.rs.length := by simp at hi; omega
      have := run_of_none hi' (h (j + 1 + i + 1) (by omega) (by rw [g.parts_length]; omega))
      simpa using this
    obtain ⟨c1, -⟩ := hg.chain.at j hj
    have hall := take_at g.rs j hj
    unfold Lg.change Lg.ents
    rw [hall, List.length_append, cfg_right _ _ _ _ _ (Nat.le_refl _), List.length_append, cfg_right _ _ _ _ _ (Nat.le_refl _), ← c1, hR, hc]
    rfl
theorem downTo_mem {len k y : Nat} (hk : k ≤ len) (h : len - k ≤ y) (hy : y < len) : y ∈ downTo len k := by
  simp only [downTo, List.mem_map, List.mem_range]
  exact ⟨len - 1 - y, by omega, by omega⟩
/-- All that has come, but for the last one, and that one. -/
theorem down_last {len k : Nat} {q : List (Fin len)} {x : Fin len} (hk : k ≤ len) (h : (q ++ [x]).map (·.1) = downTo len k) : ∀ y, x.1 < y → y < len → ∃ z ∈ q, z.1 = y := by
  cases k with
  | zero => simp [downTo] at h
  | succ k =>
    rw [downTo_succ, List.map_append] at h
    obtain ⟨h1, h2⟩ := List.append_inj' h (by simp)
    intro y hxy hy
    have hx : x.1 = len - 1 - k := by simpa using h2
    have := downTo_mem (len := len) (k := k) (y := y) (by omega) (by omega) hy
    rw [← h1] at this
    obtain ⟨z, hz, e⟩ := List.mem_map.1 this
    exact ⟨z, hz, e⟩

def changeV : Option (Int × Int) → Value
  | some x => .tuple #[.int .i64 x.1, .int .i64 x.2, .bool true]
  | none => .tuple #[.int .i64 0, .int .i64 0, .bool false]

theorem backward_stops (n : Nat) (hn : 1 ≤ n) (Bg n₀ pb po len pc : Nat) (fv : Nat → Value) (hpc : len ≤ pc) (hpm : pc ≤ maxLen) (hB0 : Bg < n₀) (hp0 : pb < n₀) (w : World) (hn₀ : n₀ ≤ w.heap.size)
    (hBg : w.cell? ⟨Bg, 0, none⟩ = some (.slice (some ⟨pb, po, none⟩) len pc)) (hc : ∀ i, i < len → w.cell? ⟨pb, po + i, none⟩ = some (fv i)) :
    SeqStopsK Fence.wide n Tryz.prog 146 #[.pointer (some ⟨Bg, 0, none⟩)] (fun x : Fin len => #[Value.int .i64 x.1, fv x.1]) (Below n₀) (fun ys => ys.map (·.1) = downTo len len) (fun pre => ∃ k, k ≤ len ∧ pre.map (·.1) = downTo len k) len w := fun l J Jx W hW hJ _ hY h0 => by
  have hsz := hW.size
  exact backward1_in n hn l Bg n₀ pb po len pc fv hpc hpm hB0 hp0 J Jx hY W hJ (by omega) ((hW.cell (p := ⟨Bg, 0, none⟩) (by show Bg < _; omega)).trans hBg) (fun i hi => (hW.cell (p := ⟨pb, po + i, none⟩) (by show pb < _; omega)).trans (hc i hi)) h0

/-- What holds when a round has left. -/
def ChIx (g : Lg) (n : Int) (w : World) (len : Nat) : Code → List (Fin len) → World → Prop
  | .ret, pre, W => (∃ (at_ m : Int), (Boxed W (w.heap.size + 1) 2 (.int .i64 at_) ∧ Boxed W (w.heap.size + 2) 3 (.int .i64 m) ∧ Boxed W (w.heap.size + 3) 4 (.bool true)) ∧
      ∃ q x, pre = q ++ [x] ∧ (∀ y ∈ q, NoneIn g n y.1) ∧ ∃ f l, (∃ h : x.1 < g.parts.length, g.parts[x.1] = .run f l) ∧ cfg f n l l.length = some (at_, m)) ∧ Below w.heap.size w W
  | .exit i, pre, W => (i = 0 ∧ (∃ u1 u2 u3, Boxed W (w.heap.size + 1) 2 u1 ∧ Boxed W (w.heap.size + 2) 3 u2 ∧ Boxed W (w.heap.size + 3) 4 u3) ∧ ∃ q x, pre = q ++ [x] ∧ (∀ y ∈ q, NoneIn g n y.1) ∧ ∃ h : x.1 < g.parts.length, g.parts[x.1] = .ground g.a g.t g.m) ∧ Below w.heap.size w W
  | _, _, _ => False
theorem chIx_own (g : Lg) (n : Int) (w : World) (len B : Nat) (hB : w.heap.size ≤ B) (c : Code) : OwnFrom B (ChIx g n w len c) := by
  intro s X Y row hs hg hr
  have hbx : ∀ {b : Nat} {t : TypeId} {v : Value}, Boxed X b t v → Boxed Y b t v := fun {b t v} h => (boxed_own (β := Unit) b t (fun _ => v)).from B () X Y row h hg hr
  have hbl : Below w.heap.size w X → Below w.heap.size w Y := fun h => ownFrom_below (β := Unit) (Nat.le_refl _) hB () X Y row h hg hr
  cases c with
  | ret => obtain ⟨⟨at_, m, ⟨h1, h2, h3⟩, h4⟩, h5⟩ := hs; exact ⟨⟨at_, m, ⟨hbx h1, hbx h2, hbx h3⟩, h4⟩, hbl h5⟩
  | exit i => obtain ⟨⟨h0, ⟨u1, u2, u3, h1, h2, h3⟩, h4⟩, h5⟩ := hs; exact ⟨⟨h0, ⟨u1, u2, u3, hbx h1, hbx h2, hbx h3⟩, h4⟩, hbl h5⟩
  | _ => exact hs

def ChIn (f n : Int) (L : List Ent) (W2 : World) (s : Value) (wr : World) : Prop := ∃ k : Nat, k ≤ L.length ∧ s = .int .i64 ((k : Int) - 1) ∧ cfg f n L L.length = cfg f n L k ∧ wr = W2

set_option maxRecDepth 100000 in
set_option maxHeartbeats 2000000 in
theorem change_in (d : Nat) (hd : 3 ≤ d) (p : Value) (g : Lg) (hg : g.Good) (n : Int) (_hn : in64 n) (w : World) (hL : LogAt (· < w.heap.size) w p g.parts) :
    CallsIn Fence.wide d Tryz.prog 125 #[p, .int .i64 n] w fun e W' => e = .returned (changeV (g.change n)) ∧ Below w.heap.size w W' := by
  have h1 : 1 ≤ d := by omega
  have hfB : Fence.wide.fn 138 := trivial
  obtain ⟨b, sv, vs, rfl, hSb, hcell, hrow, hpc⟩ := hL
  obtain ⟨pb, po, pc, rfl, hpn, hpcm, hSp, hlt, hcells⟩ := hrow.form (by simp [Lg.parts])
  have hple := hg.parts_le
  have hplen := g.parts_length
  have hvl := hpc.length
  obtain ⟨fv, hfv⟩ : ∃ fv : Nat → Value, ∀ i, i < g.parts.length → vs[i]? = some (fv i) := ⟨fun i => (vs[i]?).getD undef, fun i hi => by simp [List.getElem?_eq_getElem (show i < vs.length by omega)]⟩
  have HF := Lib.hid hfv
  have HC := Lib.hid hcells
  have HP := Lib.hid hpc
  have HPL := Lib.hid hplen
  clear hfv hcells hpc hrow hvl hplen
  obtain ⟨len, hlen⟩ : ∃ len, g.parts.length = len := ⟨_, rfl⟩
  rw [hlen] at hpn hple
  have HL := Lib.hid hlen
  refine callsIn_of_wp_marks Tryz.func125 rfl trivial ?_ rfl
  simp only [Tryz.ntmps125, List.size_toArray, List.length_cons, List.length_nil, Nat.reduceAdd, Nat.reduceSub, Array.replicate_succ, Array.replicate_zero, List.push_toArray, List.append_toArray, List.nil_append, List.cons_append]
  rw [hlen] at hcell
  have hcell' : ∀ o1 o2 o3 o4, ((((w.alloc o1).alloc o2).alloc o3).alloc o4).cell? ⟨b, 0, none⟩ = some (.slice (some ⟨pb, po, none⟩) len pc) := fun o1 o2 o3 o4 => cell_keep (below_alloc (below_alloc (below_alloc (box_below w o1) o2) o3) o4) hcell
  clear hlen
  gi_wp2_with (gi_at_call 138; refine (backward_in (d - 1) _ _ _ _).mono ?_; rintro e w' ⟨rfl, rfl⟩)
  have z0 := ((((Boxed.new w 2 (.int .i64 n)).alloc (.cells #[.int .i64 0] 2)).alloc (.cells #[.int .i64 0] 3)).alloc (.cells #[.bool false] 4)).alloc (.cells #[.slice (some ⟨pb, po, none⟩) len pc] 123)
  have z1 := (((Boxed.new (w.alloc (.cells #[.int .i64 n] 2)) 2 (.int .i64 0)).alloc (.cells #[.int .i64 0] 3)).alloc (.cells #[.bool false] 4)).alloc (.cells #[.slice (some ⟨pb, po, none⟩) len pc] 123)
  have z2 := ((Boxed.new ((w.alloc (.cells #[.int .i64 n] 2)).alloc (.cells #[.int .i64 0] 2)) 3 (.int .i64 0)).alloc (.cells #[.bool false] 4)).alloc (.cells #[.slice (some ⟨pb, po, none⟩) len pc] 123)
  have z3 := (Boxed.new (((w.alloc (.cells #[.int .i64 n] 2)).alloc (.cells #[.int .i64 0] 2)).alloc (.cells #[.int .i64 0] 3)) 4 (.bool false)).alloc (.cells #[.slice (some ⟨pb, po, none⟩) len pc] 123)
  have z4 := Boxed.new ((((w.alloc (.cells #[.int .i64 n] 2)).alloc (.cells #[.int .i64 0] 2)).alloc (.cells #[.int .i64 0] 3)).alloc (.cells #[.bool false] 4)) 123 (.slice (some ⟨pb, po, none⟩) len pc)
  simp only [World.size_alloc] at z1 z2 z3 z4
  have hB0 : Below w.heap.size w (((((w.alloc (.cells #[.int .i64 n] 2)).alloc (.cells #[.int .i64 0] 2)).alloc (.cells #[.int .i64 0] 3)).alloc (.cells #[.bool false] 4)).alloc (.cells #[.slice (some ⟨pb, po, none⟩) len pc] 123)) :=
    below_alloc (below_alloc (below_alloc (below_alloc (box_below w _) _) _) _) _
  have hsz : (((((w.alloc (.cells #[.int .i64 n] 2)).alloc (.cells #[.int .i64 0] 2)).alloc (.cells #[.int .i64 0] 3)).alloc (.cells #[.bool false] 4)).alloc (.cells #[.slice (some ⟨pb, po, none⟩) len pc] 123)).heap.size = w.heap.size + 5 := by simp
  obtain ⟨W0, hW0⟩ : ∃ W0, ((((w.alloc (.cells #[.int .i64 n] 2)).alloc (.cells #[.int .i64 0] 2)).alloc (.cells #[.int .i64 0] 3)).alloc (.cells #[.bool false] 4)).alloc (.cells #[.slice (some ⟨pb, po, none⟩) len pc] 123) = W0 := ⟨_, rfl⟩
  rw [hW0] at z0 z1 z2 z3 z4 hB0 hsz ⊢
  clear hW0 hcell'
  have hfvc : ∀ i, i < len → w.cell? ⟨pb, po + i, none⟩ = some (fv i) := fun i hi => HC.out i _ (HF.out i (by rw [HL.out]; exact hi))
  have HFC := Lib.hid fun i hi => (hB0.cell (p := ⟨pb, po + i, none⟩) hlt).trans (hfvc i hi)
  clear hfvc
  refine wpIn_rangeFunc_ownG rfl h1 (gf := 146) (lb := #[.pointer (some ⟨w.heap.size + 1 + 1 + 1 + 1, 0, none⟩)]) rfl trivial (enters_of Tryz.func146 (by kernel_rfl) rfl)
    (backward_stops (d - 1) (by omega) (w.heap.size + 1 + 1 + 1 + 1) (w.heap.size + 5) pb po len pc fv hpn hpcm (by omega) (by omega) W0 (by omega) z4.cell HFC.out) belowK_t (belowK_b (by omega)) (Below.refl _ _) (fun _ => rfl)
    (fun pre W => (((∀ y ∈ pre, NoneIn g n y.1) ∧ Boxed W w.heap.size 2 (.int .i64 n)) ∧ (Boxed W (w.heap.size + 1) 2 (.int .i64 0) ∧ Boxed W (w.heap.size + 2) 3 (.int .i64 0) ∧ Boxed W (w.heap.size + 3) 4 (.bool false) ∧ Boxed W (w.heap.size + 4) 123 (.slice (some ⟨pb, po, none⟩) len pc))) ∧ Below w.heap.size w W)
    (ChIx g n w len)
    (OwnFrom.and (OwnFrom.and (OwnFrom.and (ownFrom_pure _ _) (Own.from (boxed_own _ _ _) _)) (OwnFrom.and (Own.from (boxed_own _ _ _) _) (OwnFrom.and (Own.from (boxed_own _ _ _) _) (OwnFrom.and (Own.from (boxed_own _ _ _) _) (Own.from (boxed_own _ _ _) _))))) (ownFrom_below (Nat.le_refl _) (by omega)))
    (fun c => chIx_own g n w len _ (by omega) c)
    ⟨⟨⟨by simp, z0⟩, z1, z2, z3, z4⟩, hB0⟩
    (fun x : Fin len => { tmps := #[.pointer (some ⟨b, 0, none⟩), .int .i64 n, undef, .pointer (some ⟨w.heap.size, 0, none⟩), .pointer (some ⟨w.heap.size + 1, 0, none⟩), .pointer (some ⟨w.heap.size + 1 + 1, 0, none⟩), .pointer (some ⟨w.heap.size + 1 + 1 + 1, 0, none⟩), undef, fv x.1, undef, undef, undef, undef, .pointer (some ⟨b, 0, none⟩), .pointer (some ⟨b, 0, none⟩), .pointer (some ⟨b, 0, none⟩), .slice (some ⟨pb, po, none⟩) len pc, .func (.func 146) #[] #[.pointer (some ⟨w.heap.size + 1 + 1 + 1 + 1, 0, none⟩)], .int .i64 x.1, fv x.1, undef, undef, undef, undef, undef, undef, undef, undef, undef, undef, undef, undef, undef, undef, undef, undef, undef, undef, undef, undef, undef, undef, undef, undef, undef, undef, undef, undef, undef, undef, undef, undef, undef, undef, undef, undef, undef, undef, undef, undef, undef], defers := [] }) ?assign ?body ?done ?stop
  case assign =>
    intro l x W K hK
    gi_wp2
    exact hK
  case body =>
    rintro l pre x W ⟨⟨⟨hno, bn⟩, b1, b2, b3, b4⟩, hB⟩ hlt2
    have hb4 := b4.lt
    have hcn := bn.cell
    have hc1 := b1.cell
    have hc2 := b2.cell
    have hc3 := b3.cell
    have hf1 := b1.frozen
    have hf2 := b2.frozen
    have hf3 := b3.frozen
    obtain ⟨xi, hxi⟩ := x
    have hpx : xi < g.parts.length := by rw [HL.out]; exact hxi
    obtain ⟨v, hv, hpv⟩ := HP.out.at xi hpx
    have hfx : fv xi = v := by have := HF.out xi hpx; rw [hv] at this; injection this with this; exact this.symm
    dsimp only
    rw [hfx]
    clear hfx hv
    cases xi with
    | zero =>
      rw [g.parts_zero] at hpv
      obtain rfl := hpv
      have Hno := Lib.hid hno
      clear hno
      gi_wp2
      exact ⟨(KeepsOthers.alloc _ _).from _, ⟨rfl, ⟨_, _, _, b1.alloc _, b2.alloc _, b3.alloc _⟩, pre, _, rfl, Hno.out, hpx, g.parts_zero⟩, below_alloc hB _⟩
    | succ j =>
      have hj : j < g.rs.length := by have := HPL.out; omega
      rw [g.parts_succ j hj] at hpv
      obtain ⟨sl, rfl, cs, hrl, hec⟩ := hpv
      obtain ⟨r1, r2, r3, r4⟩ := hg.run_ok j hj
      obtain ⟨rb, ro, rc, rfl, hrn, hrc, hSr, hrb, hrcell⟩ := hrl.form r3
      have hok : ∀ e ∈ g.rs[j].2, rightB e = true := fun e he => ((hg.chain.at j hj).2.2.1 e he).2
      have hpj := g.parts_succ j hj
      have Hno := Lib.hid hno
      have Hok := Lib.hid hok
      have Hpj := Lib.hid hpj
      have Hec := Lib.hid hec
      have Hrc := Lib.hid hrcell
      clear hno hrl hok hpj hec hrcell
      generalize g.rs[j].1 = f at *
      generalize g.rs[j].2 = L at *
      have hLL : L.length ≤ 4096 := r4
      have hLp : 0 < L.length := r3
      gi_wp2
      obtain ⟨y0, y1, -⟩ := cells2 (blk_new W (.cells #[.int .i64 f, .slice (some ⟨rb, ro, none⟩) L.length rc] 131))
      have hKO : KeepsOthers W (W.alloc (.cells #[.int .i64 f, .slice (some ⟨rb, ro, none⟩) L.length rc] 131)) := KeepsOthers.alloc _ _
      have hbW := box_below W (.cells #[.int .i64 f, .slice (some ⟨rb, ro, none⟩) L.length rc] 131)
      have e0 := bn.alloc (.cells #[.int .i64 f, .slice (some ⟨rb, ro, none⟩) L.length rc] 131)
      have e1 := b1.alloc (.cells #[.int .i64 f, .slice (some ⟨rb, ro, none⟩) L.length rc] 131)
      have e2 := b2.alloc (.cells #[.int .i64 f, .slice (some ⟨rb, ro, none⟩) L.length rc] 131)
      have e3 := b3.alloc (.cells #[.int .i64 f, .slice (some ⟨rb, ro, none⟩) L.length rc] 131)
      have e4 := b4.alloc (.cells #[.int .i64 f, .slice (some ⟨rb, ro, none⟩) L.length rc] 131)
      obtain ⟨W2, hW2⟩ : ∃ W2, W.alloc (.cells #[.int .i64 f, .slice (some ⟨rb, ro, none⟩) L.length rc] 131) = W2 := ⟨_, rfl⟩
      rw [hW2] at y0 y1 hKO hbW e0 e1 e2 e3 e4 ⊢
      clear hW2 hcn hc1 hc2 hc3 hf1 hf2 hf3
      have hcn := e0.cell
      have hc1 := e1.cell
      have hc2 := e2.cell
      have hc3 := e3.cell
      have hf1 := e1.frozen
      have hf2 := e2.frozen
      have hf3 := e3.frozen
      have hB2 := below_then hB hbW
      have hrc' : rc ≤ 9223372036854775807 := hrc
      gi_loopw [11] (fun s11 wr => ChIn f n L W2 s11 wr) (fun s11 _ => (intOf s11 + 1).toNat)
      case atStart => exact ⟨L.length, Nat.le_refl _, rfl, rfl, rfl⟩
      case round =>
        obtain ⟨k, hk, rfl, hcf, rfl⟩ := hrel
        have Hcf := Lib.hid hcf
        clear hcf
        cases k with
        | zero =>
          gi_wp2
          refine ⟨hKO.from _, hbW.mono (by omega), ⟨⟨?_, e0⟩, e1, e2, e3, e4⟩, hB2⟩
          intro y hy
          rcases List.mem_append.1 hy with hy | hy
          · exact Hno.out y hy
          · simp at hy; subst hy
            exact ⟨hpx, f, L, Hpj.out, by rw [Hcf.out]; rfl⟩
        | succ i =>
          have hiL : i < L.length := hk
          have hiL2 : (i : Int) < (L.length : Int) := by omega
          have hi0 : ((i + 1 : Nat) : Int) - 1 = i := by omega
          rw [hi0]
          obtain ⟨cv, ec0, ec1, ec2, -, -, hby⟩ := Hec.out.at i hiL
          have k0 : wr.cell? ⟨rb, ro + i * 3, none⟩ = some (.int .i64 L[i].kind) := cell_keep hB2 (Hrc.out _ _ ec0)
          have k2 : wr.cell? ⟨rb, ro + i * 3 + 2, none⟩ = some cv := by rw [Nat.add_assoc]; exact cell_keep hB2 (Hrc.out _ _ ec2)
          have hstep := cfg_succ (p := f) (n := n) (es := L) hiL
          rw [← Hcf.out] at hstep
          have Hst := Lib.hid hstep
          clear hi0 hstep ec0 ec1 ec2
          by_cases hA : f + i ≤ n
          · by_cases hK : L[i].kind = 2
            · have hr := Hok.out L[i] (List.getElem_mem hiL)
              have hl1 : L[i].cmd.length = 1 := by
                simp only [rightB, Bool.and_eq_true, Bool.or_eq_true, decide_eq_true_eq, hK] at hr
                omega
              obtain ⟨c, hcm⟩ := List.length_eq_one_iff.1 hl1
              obtain ⟨cb, co, cc, rfl, hcn1, hcc1, -, hcb, hccell⟩ := RowAt.form hby (by omega)
              have kc : wr.cell? ⟨cb, co, none⟩ = some (.int .u8 c.toNat) := by
                have := cell_keep hB2 (hccell 0 _ (byteCells_get L[i].cmd 0 (by omega)))
                simpa [hcm] using this
              have hmask : L[i].mask = (c.toNat : Int) := by simp [Ent.mask, hcm]
              have hst := Hst.out
              rw [if_pos ⟨hA, hK⟩, hmask] at hst
              have Hfin := Lib.hid hst
              have hc8 := c.toNat_lt
              rw [hl1] at k2
              rw [hK] at k0
              clear hst hr hl1 hcm hmask hccell hK hby
              gi_wp2
              have hx : KeepsFrom W0.heap.size W (((wr.setCell ⟨w.heap.size + 1, 0, none⟩ (.int .i64 (f + i))).setCell ⟨w.heap.size + 1 + 1, 0, none⟩ (.int .i64 c.toNat)).setCell ⟨w.heap.size + 1 + 1 + 1, 0, none⟩ (.bool true)).drew ∧
                  ChIx g n w len .ret (pre ++ [⟨j + 1, hxi⟩]) (((wr.setCell ⟨w.heap.size + 1, 0, none⟩ (.int .i64 (f + i))).setCell ⟨w.heap.size + 1 + 1, 0, none⟩ (.int .i64 c.toNat)).setCell ⟨w.heap.size + 1 + 1 + 1, 0, none⟩ (.bool true)).drew := by
                refine ⟨(hKO.trans ((KeepsOthers.setCell _ _ _).trans ((KeepsOthers.setCell _ _ _).trans ((KeepsOthers.setCell _ _ _).trans (KeepsOthers.drew _))))).from _, ⟨⟨f + i, c.toNat, ⟨?_, ?_, ?_⟩, pre, ⟨j + 1, hxi⟩, rfl, Hno.out, f, L, ⟨hpx, Hpj.out⟩, Hfin.out⟩, ?_⟩⟩
                · exact ((e1.set (.int .i64 (f + i))).other (B' := w.heap.size + 1 + 1) (by omega) _).other (B' := w.heap.size + 1 + 1 + 1) (by omega) _
                · exact ((e2.other (B' := w.heap.size + 1) (by omega) _).set (.int .i64 c.toNat)).other (B' := w.heap.size + 1 + 1 + 1) (by omega) _
                · exact ((e3.other (B' := w.heap.size + 1) (by omega) _).other (B' := w.heap.size + 1 + 1) (by omega) _).set (.bool true)
                · exact (((hB2.setCell (p := ⟨w.heap.size + 1, 0, none⟩) (by simp) _).setCell (p := ⟨w.heap.size + 1 + 1, 0, none⟩) (by simp; omega) _).setCell (p := ⟨w.heap.size + 1 + 1 + 1, 0, none⟩) (by simp; omega) _).drew
              have HX := Lib.hid hx
              have ew : IntKind.i64.wrap (c.toNat : Int) = c.toNat := IntWalk.i64_in _ (by omega)
              have n1 : ¬ w.heap.size + 1 = rb := by omega
              have n2 : ¬ w.heap.size + 1 = cb := by have : cb < w.heap.size := hcb; omega
              have n3 : ¬ w.heap.size + 1 = W.heap.size := by omega
              have m1 : ¬ rb = w.heap.size + 1 := by omega
              have m2 : ¬ cb = w.heap.size + 1 := by have : cb < w.heap.size := hcb; omega
              have m3 : ¬ W.heap.size = w.heap.size + 1 := by omega
              clear hx
              have hmx : Tryz.prog.follows .mixedOrders = true := by kernel_rfl
              refine wpIn_region_any hmx ?_
              refine wpAnyIn_inRound (F := Fence.wide) l (by kernel_rfl) _ _ _ _ ?_
              change wpAnyIn _ _ _ _ _ _ _ _ _ (World.drew _)
              refine wpAnyIn_take (i := 0) (v := ?_) rfl rfl (by kernel_rfl) (by kernel_rfl) (by kernel_rfl) (fun _ _ _ h => h) ⟨Or.inl ⟨by rfl, ?_⟩, fun _ => rfl⟩ ?_
              rotate_left
              · intro w
                go_simp
                with_reducible rfl
              refine wpAnyIn_take (i := 1) (v := ?_) rfl rfl (by kernel_rfl) (by kernel_rfl) (by kernel_rfl) (fun _ _ _ h => h) ⟨Or.inl ⟨by rfl, ?_⟩, fun _ => rfl⟩ ?_
              rotate_left
              · intro w
                go_simp
                with_reducible rfl
              refine wpAnyIn_take (i := 3) (v := ?_) rfl rfl (by kernel_rfl) (by kernel_rfl) (by kernel_rfl) (fun _ _ _ h => h) ⟨Or.inl ⟨by rfl, ?_⟩, fun _ => rfl⟩ ?_
              rotate_left
              · intro w
                go_simp
                with_reducible rfl
              refine wpAnyIn_ready (rs := [2, 10]) (by kernel_rfl) (by simp) (AllReadyIn.cons rfl (fun K hK => ?_) (AllReadyIn.cons rfl (fun K hK => ?_) AllReadyIn.nil))
              rotate_left
              · go_simp
                refine hK _ _ ?_
                clear hK K
                refine wpAnyIn_ready (rs := [2]) (by kernel_rfl) (by simp) (AllReadyIn.cons rfl (fun K hK => ?_) AllReadyIn.nil)
                go_simp
                refine hK _ _ ?_
                clear hK K
                refine wpAnyIn_ready (rs := [4]) (by kernel_rfl) (by simp) (AllReadyIn.cons rfl (fun K hK => ?_) AllReadyIn.nil)
                go_simp
                refine hK _ _ ?_
                clear hK K
                refine wpAnyIn_ready (rs := [5]) (by kernel_rfl) (by simp) (AllReadyIn.cons rfl (fun K hK => ?_) AllReadyIn.nil)
                go_simp
                refine hK _ _ ?_
                clear hK K
                refine wpAnyIn_ready (rs := [6]) (by kernel_rfl) (by simp) (AllReadyIn.cons rfl (fun K hK => ?_) AllReadyIn.nil)
                go_simp
                refine hK _ _ ?_
                clear hK K
                refine wpAnyIn_ready (rs := [7]) (by kernel_rfl) (by simp) (AllReadyIn.cons rfl (fun K hK => ?_) AllReadyIn.nil)
                go_simp
                refine hK _ _ ?_
                clear hK K
                refine wpAnyIn_ready (rs := [8]) (by kernel_rfl) (by simp) (AllReadyIn.cons rfl (fun K hK => ?_) AllReadyIn.nil)
                go_simp
                refine hK _ _ ?_
                clear hK K
                refine wpAnyIn_ready (rs := [9]) (by kernel_rfl) (by simp) (AllReadyIn.cons rfl (fun K hK => ?_) AllReadyIn.nil)
                go_simp
                refine hK _ _ ?_
                clear hK K
                refine wpAnyIn_ready (rs := [11]) (by kernel_rfl) (by simp) (AllReadyIn.cons rfl (fun K hK => ?_) AllReadyIn.nil)
                go_simp
                refine hK _ _ ?_
                clear hK K
                refine wpAnyIn_ready (rs := [12]) (by kernel_rfl) (by simp) (AllReadyIn.cons rfl (fun K hK => ?_) AllReadyIn.nil)
                go_simp
                refine hK _ _ ?_
                clear hK K
                refine wpAnyIn_done (by kernel_rfl) ?_ _
                gi_wp2
                exact HX.out
              go_simp
              refine hK _ _ ?_
              clear hK K
              refine wpAnyIn_ready (rs := [4, 10]) (by kernel_rfl) (by simp) (AllReadyIn.cons rfl (fun K hK => ?_) (AllReadyIn.cons rfl (fun K hK => ?_) AllReadyIn.nil))
              rotate_left
              · go_simp
                refine hK _ _ ?_
                clear hK K
                refine wpAnyIn_ready (rs := [4]) (by kernel_rfl) (by simp) (AllReadyIn.cons rfl (fun K hK => ?_) AllReadyIn.nil)
                go_simp
                refine hK _ _ ?_
                clear hK K
                refine wpAnyIn_ready (rs := [5]) (by kernel_rfl) (by simp) (AllReadyIn.cons rfl (fun K hK => ?_) AllReadyIn.nil)
                go_simp
                refine hK _ _ ?_
                clear hK K
                refine wpAnyIn_ready (rs := [6]) (by kernel_rfl) (by simp) (AllReadyIn.cons rfl (fun K hK => ?_) AllReadyIn.nil)
                go_simp
                refine hK _ _ ?_
                clear hK K
                refine wpAnyIn_ready (rs := [7]) (by kernel_rfl) (by simp) (AllReadyIn.cons rfl (fun K hK => ?_) AllReadyIn.nil)
                go_simp
                refine hK _ _ ?_
                clear hK K
                refine wpAnyIn_ready (rs := [8]) (by kernel_rfl) (by simp) (AllReadyIn.cons rfl (fun K hK => ?_) AllReadyIn.nil)
                go_simp
                refine hK _ _ ?_
                clear hK K
                refine wpAnyIn_ready (rs := [9]) (by kernel_rfl) (by simp) (AllReadyIn.cons rfl (fun K hK => ?_) AllReadyIn.nil)
                go_simp
                refine hK _ _ ?_
                clear hK K
                refine wpAnyIn_ready (rs := [11]) (by kernel_rfl) (by simp) (AllReadyIn.cons rfl (fun K hK => ?_) AllReadyIn.nil)
                go_simp
                refine hK _ _ ?_
                clear hK K
                refine wpAnyIn_ready (rs := [12]) (by kernel_rfl) (by simp) (AllReadyIn.cons rfl (fun K hK => ?_) AllReadyIn.nil)
                go_simp
                refine hK _ _ ?_
                clear hK K
                refine wpAnyIn_done (by kernel_rfl) ?_ _
                gi_wp2
                exact HX.out
              go_simp
              refine hK _ _ ?_
              clear hK K
              refine wpAnyIn_ready (rs := [5, 10]) (by kernel_rfl) (by simp) (AllReadyIn.cons rfl (fun K hK => ?_) (AllReadyIn.cons rfl (fun K hK => ?_) AllReadyIn.nil))
              rotate_left
              · go_simp
                refine hK _ _ ?_
                clear hK K
                refine wpAnyIn_ready (rs := [5]) (by kernel_rfl) (by simp) (AllReadyIn.cons rfl (fun K hK => ?_) AllReadyIn.nil)
                go_simp
                refine hK _ _ ?_
                clear hK K
                refine wpAnyIn_ready (rs := [6]) (by kernel_rfl) (by simp) (AllReadyIn.cons rfl (fun K hK => ?_) AllReadyIn.nil)
                go_simp
                refine hK _ _ ?_
                clear hK K
                refine wpAnyIn_ready (rs := [7]) (by kernel_rfl) (by simp) (AllReadyIn.cons rfl (fun K hK => ?_) AllReadyIn.nil)
                go_simp
                refine hK _ _ ?_
                clear hK K
                refine wpAnyIn_ready (rs := [8]) (by kernel_rfl) (by simp) (AllReadyIn.cons rfl (fun K hK => ?_) AllReadyIn.nil)
                go_simp
                refine hK _ _ ?_
                clear hK K
                refine wpAnyIn_ready (rs := [9]) (by kernel_rfl) (by simp) (AllReadyIn.cons rfl (fun K hK => ?_) AllReadyIn.nil)
                go_simp
                refine hK _ _ ?_
                clear hK K
                refine wpAnyIn_ready (rs := [11]) (by kernel_rfl) (by simp) (AllReadyIn.cons rfl (fun K hK => ?_) AllReadyIn.nil)
                go_simp
                refine hK _ _ ?_
                clear hK K
                refine wpAnyIn_ready (rs := [12]) (by kernel_rfl) (by simp) (AllReadyIn.cons rfl (fun K hK => ?_) AllReadyIn.nil)
                go_simp
                refine hK _ _ ?_
                clear hK K
                refine wpAnyIn_done (by kernel_rfl) ?_ _
                gi_wp2
                exact HX.out
              go_simp
              refine hK _ _ ?_
              clear hK K
              refine wpAnyIn_ready (rs := [6, 10]) (by kernel_rfl) (by simp) (AllReadyIn.cons rfl (fun K hK => ?_) (AllReadyIn.cons rfl (fun K hK => ?_) AllReadyIn.nil))
              rotate_left
              · go_simp
                refine hK _ _ ?_
                clear hK K
                refine wpAnyIn_ready (rs := [6]) (by kernel_rfl) (by simp) (AllReadyIn.cons rfl (fun K hK => ?_) AllReadyIn.nil)
                go_simp
                refine hK _ _ ?_
                clear hK K
                refine wpAnyIn_ready (rs := [7]) (by kernel_rfl) (by simp) (AllReadyIn.cons rfl (fun K hK => ?_) AllReadyIn.nil)
                go_simp
                refine hK _ _ ?_
                clear hK K
                refine wpAnyIn_ready (rs := [8]) (by kernel_rfl) (by simp) (AllReadyIn.cons rfl (fun K hK => ?_) AllReadyIn.nil)
                go_simp
                refine hK _ _ ?_
                clear hK K
                refine wpAnyIn_ready (rs := [9]) (by kernel_rfl) (by simp) (AllReadyIn.cons rfl (fun K hK => ?_) AllReadyIn.nil)
                go_simp
                refine hK _ _ ?_
                clear hK K
                refine wpAnyIn_ready (rs := [11]) (by kernel_rfl) (by simp) (AllReadyIn.cons rfl (fun K hK => ?_) AllReadyIn.nil)
                go_simp
                refine hK _ _ ?_
                clear hK K
                refine wpAnyIn_ready (rs := [12]) (by kernel_rfl) (by simp) (AllReadyIn.cons rfl (fun K hK => ?_) AllReadyIn.nil)
                go_simp
                refine hK _ _ ?_
                clear hK K
                refine wpAnyIn_done (by kernel_rfl) ?_ _
                gi_wp2
                exact HX.out
              go_simp
              refine hK _ _ ?_
              clear hK K
              refine wpAnyIn_ready (rs := [7, 10]) (by kernel_rfl) (by simp) (AllReadyIn.cons rfl (fun K hK => ?_) (AllReadyIn.cons rfl (fun K hK => ?_) AllReadyIn.nil))
              rotate_left
              · go_simp
                refine hK _ _ ?_
                clear hK K
                refine wpAnyIn_ready (rs := [7]) (by kernel_rfl) (by simp) (AllReadyIn.cons rfl (fun K hK => ?_) AllReadyIn.nil)
                go_simp
                refine hK _ _ ?_
                clear hK K
                refine wpAnyIn_ready (rs := [8]) (by kernel_rfl) (by simp) (AllReadyIn.cons rfl (fun K hK => ?_) AllReadyIn.nil)
                go_simp
                refine hK _ _ ?_
                clear hK K
                refine wpAnyIn_ready (rs := [9]) (by kernel_rfl) (by simp) (AllReadyIn.cons rfl (fun K hK => ?_) AllReadyIn.nil)
                go_simp
                refine hK _ _ ?_
                clear hK K
                refine wpAnyIn_ready (rs := [11]) (by kernel_rfl) (by simp) (AllReadyIn.cons rfl (fun K hK => ?_) AllReadyIn.nil)
                go_simp
                refine hK _ _ ?_
                clear hK K
                refine wpAnyIn_ready (rs := [12]) (by kernel_rfl) (by simp) (AllReadyIn.cons rfl (fun K hK => ?_) AllReadyIn.nil)
                go_simp
                refine hK _ _ ?_
                clear hK K
                refine wpAnyIn_done (by kernel_rfl) ?_ _
                gi_wp2
                exact HX.out
              go_simp
              refine hK _ _ ?_
              clear hK K
              refine wpAnyIn_ready (rs := [8, 10]) (by kernel_rfl) (by simp) (AllReadyIn.cons rfl (fun K hK => ?_) (AllReadyIn.cons rfl (fun K hK => ?_) AllReadyIn.nil))
              rotate_left
              · go_simp
                refine hK _ _ ?_
                clear hK K
                refine wpAnyIn_ready (rs := [8]) (by kernel_rfl) (by simp) (AllReadyIn.cons rfl (fun K hK => ?_) AllReadyIn.nil)
                go_simp
                refine hK _ _ ?_
                clear hK K
                refine wpAnyIn_ready (rs := [9]) (by kernel_rfl) (by simp) (AllReadyIn.cons rfl (fun K hK => ?_) AllReadyIn.nil)
                go_simp
                refine hK _ _ ?_
                clear hK K
                refine wpAnyIn_ready (rs := [11]) (by kernel_rfl) (by simp) (AllReadyIn.cons rfl (fun K hK => ?_) AllReadyIn.nil)
                go_simp
                refine hK _ _ ?_
                clear hK K
                refine wpAnyIn_ready (rs := [12]) (by kernel_rfl) (by simp) (AllReadyIn.cons rfl (fun K hK => ?_) AllReadyIn.nil)
                go_simp
                refine hK _ _ ?_
                clear hK K
                refine wpAnyIn_done (by kernel_rfl) ?_ _
                gi_wp2
                exact HX.out
              go_simp
              refine hK _ _ ?_
              clear hK K
              refine wpAnyIn_ready (rs := [9, 10]) (by kernel_rfl) (by simp) (AllReadyIn.cons rfl (fun K hK => ?_) (AllReadyIn.cons rfl (fun K hK => ?_) AllReadyIn.nil))
              rotate_left
              · go_simp
                refine hK _ _ ?_
                clear hK K
                refine wpAnyIn_ready (rs := [9]) (by kernel_rfl) (by simp) (AllReadyIn.cons rfl (fun K hK => ?_) AllReadyIn.nil)
                go_simp
                refine hK _ _ ?_
                clear hK K
                refine wpAnyIn_ready (rs := [11]) (by kernel_rfl) (by simp) (AllReadyIn.cons rfl (fun K hK => ?_) AllReadyIn.nil)
                go_simp
                refine hK _ _ ?_
                clear hK K
                refine wpAnyIn_ready (rs := [12]) (by kernel_rfl) (by simp) (AllReadyIn.cons rfl (fun K hK => ?_) AllReadyIn.nil)
                go_simp
                refine hK _ _ ?_
                clear hK K
                refine wpAnyIn_done (by kernel_rfl) ?_ _
                gi_wp2
                exact HX.out
              go_simp
              refine hK _ _ ?_
              clear hK K
              refine wpAnyIn_ready (rs := [10]) (by kernel_rfl) (by simp) (AllReadyIn.cons rfl (fun K hK => ?_) AllReadyIn.nil)
              go_simp
              refine hK _ _ ?_
              clear hK K
              refine wpAnyIn_ready (rs := [11]) (by kernel_rfl) (by simp) (AllReadyIn.cons rfl (fun K hK => ?_) AllReadyIn.nil)
              go_simp
              refine hK _ _ ?_
              clear hK K
              refine wpAnyIn_ready (rs := [12]) (by kernel_rfl) (by simp) (AllReadyIn.cons rfl (fun K hK => ?_) AllReadyIn.nil)
              go_simp
              refine hK _ _ ?_
              clear hK K
              refine wpAnyIn_done (by kernel_rfl) ?_ _
              gi_wp2
              exact HX.out
            · have hst := Hst.out
              rw [if_neg (fun h => hK h.2)] at hst
              have Hfin := Lib.hid hst
              have hKb : (L[i].kind == 2) = false := by simpa using hK
              clear hst hK
              gi_wp2
              go_roundw
              case rel => exact ⟨i, by omega, rfl, Hfin.out, rfl⟩
              case measure => (simp [intOf] <;> omega)
          · have hst := Hst.out
            rw [if_neg (fun h => hA h.1)] at hst
            have Hfin := Lib.hid hst
            have hA' : n < f + i := by omega
            clear hst hA
            gi_wp2
            go_roundw
            case rel => exact ⟨i, by omega, rfl, Hfin.out, rfl⟩
            case measure => (simp [intOf] <;> omega)
  case done =>
    rintro D ys W hD hys ⟨⟨⟨hno, -⟩, -⟩, hB⟩ hK
    exfalso
    have hl0 : 0 < len := by have := HPL.out; have := HL.out; omega
    have := downTo_mem (len := len) (k := len) (y := 0) (Nat.le_refl _) (by omega) hl0
    rw [← hys] at this
    obtain ⟨z, hz, e⟩ := List.mem_map.1 this
    obtain ⟨hz0, f, l, hp, -⟩ := hno z hz
    simp only [e] at hp
    rw [g.parts_zero] at hp
    cases hp
  case stop =>
    rintro D c pre W hD ⟨k, hk, hpre⟩ hIx hK
    cases c with
    | ret =>
      obtain ⟨⟨at_, m, ⟨b1, b2, b3⟩, q, x, rfl, hq, f, l, ⟨hx, hp⟩, hc⟩, hB⟩ := hIx
      have hch : g.change n = some (at_, m) := change_some hg hx (fun y hxy hy => by
        obtain ⟨z, hz, rfl⟩ := down_last hk hpre y hxy (by have := HL.out; omega)
        exact hq z hz) hp hc
      have Hch := Lib.hid hch
      have hK' := hK
      clear hch hq hc hpre
      gi_wp2
      refine ⟨by simp, .inl ⟨_, _, rfl, run_takeDeferred hK', ?_⟩⟩
      have r1 := cell_kept b1.cell (grownBy_putObj' _ D (.deferred none)) (fun r e => by cases e; exact ⟨_, hK', rfl⟩)
      have r2 := cell_kept b2.cell (grownBy_putObj' _ D (.deferred none)) (fun r e => by cases e; exact ⟨_, hK', rfl⟩)
      have r3 := cell_kept b3.cell (grownBy_putObj' _ D (.deferred none)) (fun r e => by cases e; exact ⟨_, hK', rfl⟩)
      refine ⟨.tuple #[.int .i64 at_, .int .i64 m, .bool true], ?_, by rw [Hch.out]; rfl, hB.trans (belowK_b (w := w) (Nat.le_refl _) _ D _ _ (by omega) hK' rfl rfl)⟩
      simp [results, Tryz.f125, go_sem, r1, r2, r3]
    | exit i =>
      obtain ⟨⟨rfl, ⟨u1, u2, u3, b1, b2, b3⟩, q, x, rfl, hq, hx, hp⟩, hB⟩ := hIx
      have hx0 : x.1 = 0 := by
        rcases Nat.eq_zero_or_pos x.1 with h0 | h0
        · exact h0
        · obtain ⟨y, hy⟩ : ∃ y, x.1 = y + 1 := ⟨x.1 - 1, by omega⟩
          simp only [hy] at hp
          rw [g.parts_succ y (by have := HPL.out; omega)] at hp
          cases hp
      have hch : g.change n = none := change_none hg (fun y h0 hy => by
        obtain ⟨z, hz, rfl⟩ := down_last hk hpre y (by omega) (by have := HL.out; omega)
        exact hq z hz)
      have Hch := Lib.hid hch
      have hc1 := b1.cell
      have hc2 := b2.cell
      have hc3 := b3.cell
      have hf1 := b1.frozen
      have hf2 := b2.frozen
      have hf3 := b3.frozen
      clear hch hq hpre hp
      gi_wp2
      have hK' := ((KeepsOthers.setCell W ⟨w.heap.size + 1, 0, none⟩ (.int .i64 0)).trans ((KeepsOthers.setCell _ ⟨w.heap.size + 2, 0, none⟩ (.int .i64 0)).trans (KeepsOthers.setCell _ ⟨w.heap.size + 3, 0, none⟩ (.bool false)))).same D _ hK rfl
      refine ⟨by simp, .inl ⟨_, _, rfl, run_takeDeferred hK', ?_⟩⟩
      have x1 := ((b1.set (.int .i64 0)).other (B' := w.heap.size + 2) (by omega) (.int .i64 0)).other (B' := w.heap.size + 3) (by omega) (.bool false)
      have x2 := ((b2.other (B' := w.heap.size + 1) (by omega) (.int .i64 0)).set (.int .i64 0)).other (B' := w.heap.size + 3) (by omega) (.bool false)
      have x3 := ((b3.other (B' := w.heap.size + 1) (by omega) (.int .i64 0)).other (B' := w.heap.size + 2) (by omega) (.int .i64 0)).set (.bool false)
      have r1 := cell_kept x1.cell (grownBy_putObj' _ D (.deferred none)) (fun r e => by cases e; exact ⟨_, hK', rfl⟩)
      have r2 := cell_kept x2.cell (grownBy_putObj' _ D (.deferred none)) (fun r e => by cases e; exact ⟨_, hK', rfl⟩)
      have r3 := cell_kept x3.cell (grownBy_putObj' _ D (.deferred none)) (fun r e => by cases e; exact ⟨_, hK', rfl⟩)
      refine ⟨.tuple #[.int .i64 0, .int .i64 0, .bool false], ?_, by rw [Hch.out]; rfl, (((hB.setCell (p := ⟨w.heap.size + 1, 0, none⟩) (by simp) _).setCell (p := ⟨w.heap.size + 2, 0, none⟩) (by simp) _).setCell (p := ⟨w.heap.size + 3, 0, none⟩) (by simp) _).trans (belowK_b (w := w) (Nat.le_refl _) _ D _ _ (by omega) hK' rfl rfl)⟩
      simp [results, Tryz.f125, go_sem, r1, r2, r3]
    | _ => exact hIx.elim
end Go.Proofs.YtahagecdebadfaaGreat

namespace Go.Proofs.YtahagecdebadfaaGreat
open Go.RowKit

theorem bytes_str {S : Nat → Prop} {w : World} {v : Value} {xs : List UInt8} (h : Bytes S w v xs) : (convert 40 9 v).run Tryz.prog w = .ok (.string ⟨xs.toArray⟩) w := by
  have hs : Tryz.prog.underlying 9 = some .string := Tryz.underlying9
  rcases h.2 with ⟨h0, rfl | ⟨a, c, rfl⟩⟩ | ⟨b, o, c, rfl, hn, hc, _, hb, hcell⟩
  · obtain rfl : xs = [] := List.eq_nil_of_length_eq_zero h0
    rw [run_convert_bytes_string w _ _ _ none 0 0 Tryz.underlying40 Tryz.underlying5 hs]
    simp [Conv.bytesToString]
    rfl
  · obtain rfl : xs = [] := List.eq_nil_of_length_eq_zero h0
    exact run_convert_bytes_back w _ _ _ a c [] Tryz.underlying40 Tryz.underlying5 hs (fun j hj => by simp at hj)
  · refine run_convert_bytes_back w _ _ _ _ c xs Tryz.underlying40 Tryz.underlying5 hs (fun j hj => ?_)
    rw [add_plain]
    exact hcell j _ (by simp [byteCells, hj])

def Drawn (w w' : World) : Prop := ∃ m, w' = w.drewN m
theorem Drawn.refl (w : World) : Drawn w w := ⟨0, rfl⟩
theorem Drawn.drewN {w w' : World} (h : Drawn w w') (n : Nat) : Drawn w (w'.drewN n) := by
  obtain ⟨m, rfl⟩ := h
  exact ⟨m + n, by rw [World.drewN_drewN]⟩
theorem Drawn.below {w w' : World} (h : Drawn w w') : Below w.heap.size w w' := by
  obtain ⟨m, rfl⟩ := h
  exact below_drewN (Below.refl _ _) m
theorem Drawn.trans {a b c : World} (h : Drawn a b) (k : Drawn b c) : Drawn a c := by
  obtain ⟨m, rfl⟩ := k
  exact h.drewN m

end Go.Proofs.YtahagecdebadfaaGreat

namespace Go.Proofs.YtahagecdebadfaaGreat
open Go.RowKit
attribute [local go_sem ↓] Go.wp_at_zero Go.wp_at_succ

/-- A block of five cells, all known, none frozen. -/
def Five (W : World) (n : Nat) (x y z u v : Value) : Prop :=
  (W.cell? ⟨n, 0, none⟩ = some x ∧ W.cell? ⟨n, 1, none⟩ = some y ∧ W.cell? ⟨n, 2, none⟩ = some z ∧ W.cell? ⟨n, 3, none⟩ = some u ∧ W.cell? ⟨n, 4, none⟩ = some v) ∧
  W.frozen? ⟨n, 0, none⟩ = false ∧ W.frozen? ⟨n, 1, none⟩ = false ∧ W.frozen? ⟨n, 2, none⟩ = false ∧ W.frozen? ⟨n, 3, none⟩ = false ∧ W.frozen? ⟨n, 4, none⟩ = false
theorem Five.keep {W W1 : World} {n : Nat} {x y z u v : Value} (h : Five W n x y z u v) (hb : Below W.heap.size W W1) : Five W1 n x y z u v := by
  have hn := block_lt h.1.1
  exact ⟨⟨cell_keep hb h.1.1, cell_keep hb h.1.2.1, cell_keep hb h.1.2.2.1, cell_keep hb h.1.2.2.2.1, cell_keep hb h.1.2.2.2.2⟩,
    (hb.frozen (p := ⟨n, 0, none⟩) hn).trans h.2.1, (hb.frozen (p := ⟨n, 1, none⟩) hn).trans h.2.2.1, (hb.frozen (p := ⟨n, 2, none⟩) hn).trans h.2.2.2.1, (hb.frozen (p := ⟨n, 3, none⟩) hn).trans h.2.2.2.2.1, (hb.frozen (p := ⟨n, 4, none⟩) hn).trans h.2.2.2.2.2⟩
theorem five_after {W W1 : World} {t : TypeId} {x y z u v : Value} (hb : Below (W.alloc (.cells #[x, y, z, u, v] t)).heap.size (W.alloc (.cells #[x, y, z, u, v] t)) W1) : Five W1 W.heap.size x y z u v := by
  obtain ⟨h0, h1, h2, h3, h4, h5⟩ := cells5 (blk_keep hb (blk_new W _))
  exact ⟨⟨h0, h1, h2, h3, h4⟩, h5⟩
theorem five_after_drew {W W1 : World} {t : TypeId} {x y z u v : Value} (hb : Below (W.alloc (.cells #[x, y, z, u, v] t)).drew.heap.size (W.alloc (.cells #[x, y, z, u, v] t)).drew W1) : Five W1 W.heap.size x y z u v := five_after (W := W) (below_of_drew hb)

/-- All five cells written anew. -/
theorem Five.put {W : World} {n : Nat} {a b c d e x y z u v : Value} (h : Five W n a b c d e) :
    (∀ W', W' = ((((W.setCell ⟨n, 0, none⟩ x).setCell ⟨n, 1, none⟩ y).setCell ⟨n, 2, none⟩ z).setCell ⟨n, 3, none⟩ u).setCell ⟨n, 4, none⟩ v →
      (W'.cell? ⟨n, 0, none⟩ = some x ∧ W'.cell? ⟨n, 1, none⟩ = some y ∧ W'.cell? ⟨n, 2, none⟩ = some z ∧ W'.cell? ⟨n, 3, none⟩ = some u ∧ W'.cell? ⟨n, 4, none⟩ = some v) ∧ Same (· ≠ n) W W' ∧ ∀ w B, B ≤ n → Below B w W → Below B w W') := by
  rintro W' rfl
  obtain ⟨⟨h0, h1, h2, h3, h4⟩, -⟩ := h
  refine ⟨?_, ?_, ?_⟩
  · go_simp
  · exact (((((Same.refl _ _).setCell (by simp) _).setCell (by simp) _).setCell (by simp) _).setCell (by simp) _).setCell (by simp) _
  · intro w B hB hb
    exact ((((hb.setCell hB _).setCell hB _).setCell hB _).setCell hB _).setCell hB _

theorem logB_of {l : List Ent} (h : logB 0 0 7 l = true) : okSeq 0 l = true ∧ l.length ≤ 4096 := by
  have : newB 0 0 7 = true ∧ okSeq 0 l = true ∧ l.length ≤ 4096 := by simpa [logB, and_assoc] using h
  exact this.2
theorem floor7 : FloorOk 0 0 7 := newB_floor (a := 0) (t := 0) (m := 7) rfl

/-- Entries more on a log over the floor at 0. -/
theorem with_two {S : Nat → Prop} (p lv : Value) (l a : List Ent) (w : World) (hp : LogAt S w p (Lg.of 0 0 7 l).parts) (hl : okSeq 0 l = true) (ha : Ents S w lv a) (hn : l.length + a.length ≤ 4096) :
    Calls Tryz.prog 30 #[p, lv] w fun e w' =>
      ((okSeq 0 (l ++ a) = true ∧ ∃ q, e = .returned (.tuple #[.pointer (some q), .int .i64 0]) ∧ LogAt (fun _ => True) w' (.pointer (some q)) (Lg.of 0 0 7 (l ++ a)).parts) ∨ e = .returned (.tuple #[.pointer none, .int .i64 1])) ∧ Below w.heap.size w w' := by
  obtain ⟨g1, g2, g3, -⟩ := floor7.of hl (by omega)
  refine (with_room p (Lg.of 0 0 7 l) lv a w hp g1 ha (by rw [g2]; exact hn)).mono ?_
  rintro e w' ⟨⟨hok, q, rfl, hq⟩ | ⟨-, rfl⟩, hb⟩
  · obtain ⟨b, sv, vs, rfl, hr⟩ := hq
    refine ⟨.inl ⟨?_, _, rfl, ?_⟩, hb⟩
    · rw [okSeq_append, hl, ← g3, hok]; rfl
    · rw [← Lg.of_adds]
      exact LogAt.mono (S := fun b => S b ∨ w.heap.size ≤ b) ⟨b, sv, vs, rfl, hr⟩ fun _ _ _ => trivial
  · exact ⟨.inr rfl, hb⟩

theorem two_of {l a b : List Ent} (ha : okSeq 0 (l ++ a) = true) (hb : okSeq 0 (l ++ b) = true) (hla : (l ++ a).length ≤ 4096) (hlb : (l ++ b).length ≤ 4096) :
    Two (Lg.of 0 0 7 (l ++ a)) (Lg.of 0 0 7 (l ++ b)) ∧ (Lg.of 0 0 7 (l ++ a)).ents = l ++ a ∧ (Lg.of 0 0 7 (l ++ b)).ents = l ++ b ∧ (Lg.of 0 0 7 (l ++ a)).m = 7 := by
  obtain ⟨g1, g2, -, g4, g5, g6⟩ := floor7.of ha hla
  obtain ⟨h1, h2, -, h4, h5, h6⟩ := floor7.of hb hlb
  exact ⟨⟨g1, h1, g4, h4, g5, h5⟩, g2, h2, g6⟩

/-- What the law asks of the join, said of the logs alone. -/
theorem join_facts {l a b : List Ent} {G H : Lg} (hT : Two G H) (hge : G.ents = l ++ a) (hhe : H.ents = l ++ b) (hm : G.m = 7) (most : Int) :
    ∃ (P es : List Ent) (fr : Int) (X : Lg), H.slice (l.length + 1) most = P ∧ P.length ≤ b.length ∧ G.join l.length (H.termAt l.length) P = ⟨some es, true, l.length + P.length, fr, 0⟩ ∧ X = Lg.of G.a G.t G.m es ∧ X.Good ∧ 0 ≤ fr ∧ fr ≤ l.length + P.length ∧
      (∀ i : Nat, i ≤ l.length + P.length → X.termAt i = H.termAt i) ∧
      (0 < fr → X.slice fr (l.length + P.length) = H.slice fr (l.length + P.length - fr + 1)) ∧
      X.join l.length (H.termAt l.length) P = ⟨some es, true, l.length + P.length, 0, 0⟩ ∧ (fr = 0 ∨ X.top = l.length + P.length) ∧ X.ents = es := by
  have hP : H.slice (l.length + 1) most = (H.ents.drop l.length).take most.toNat := by
    unfold Lg.slice
    by_cases hlt : l.length < H.ents.length
    · rw [if_pos ⟨by rw [hT.ha]; omega, by rw [hT.htop]; omega⟩, hT.ha]
      congr 2
      omega
    · rw [if_neg (by rw [hT.htop]; omega), List.drop_eq_nil_of_le (by omega), List.take_nil]
  obtain ⟨es, fr, X, h1⟩ := hT.joined hm l.length most.toNat (by rw [hge]; simp) (by rw [hhe]; simp) (by rw [hge, hhe, List.take_left, List.take_left]) _ rfl
  refine ⟨_, es, fr, X, hP, ?_, h1⟩
  rw [hhe]; simp; omega

end Go.Proofs.YtahagecdebadfaaGreat

namespace Go.Proofs.YtahagecdebadfaaGreat
open Go.RowKit
attribute [local go_sem ↓] Go.wp_at_zero Go.wp_at_succ

theorem change_call {S : Nat → Prop} (p : Value) (g : Lg) (hg : g.Good) (n : Int) (hn : in64 n) (w : World) (hL : LogAt S w p g.parts) :
    Calls Tryz.prog 125 #[p, .int .i64 n] w fun e w' => e = .returned (changeV (g.change n)) ∧ Below w.heap.size w w' :=
  callsIn_wide.1 (change_in 3 (by decide) p g hg n hn w (hL.mono fun b hb _ => hb))

def chPlace : Option (Int × Int) → Int
  | some x => x.1
  | none => 0
def chMask (m : Int) : Option (Int × Int) → Int
  | some x => x.2
  | none => m
def changeAt (g : Lg) : Int := chPlace (g.change 1099511631872)
theorem memAt_in {g : Lg} {n : Int} (h1 : g.a ≤ n) (h2 : n ≤ g.top) : g.memAt n = chMask g.m (g.change n) := by
  unfold Lg.memAt
  rw [if_neg (by omega)]
  cases g.change n <;> rfl

set_option maxHeartbeats 1000000 in
theorem change_any {S : Nat → Prop} (p : Value) (g : Lg) (w : World) (h : LogAt S w p g.parts) (hg : g.Good) :
    Calls Tryz.prog 94 #[p] w fun e w' => e = .returned (.int .i64 (changeAt g)) ∧ Below w.heap.size w w' := by
  have hc := Lib.hid (change_call p g hg 1099511631872 ⟨by omega, by omega⟩ w h)
  obtain ⟨b, sv, vs, rfl, -⟩ := h
  obtain ⟨o, ho⟩ : ∃ o, g.change 1099511631872 = o := ⟨_, rfl⟩
  have Hr := Lib.hid (show changeAt g = chPlace o by unfold changeAt; rw [ho])
  have Ho := Lib.hid ho
  clear ho
  go_enter Tryz.func94, Tryz.ntmps94
  go_wp2_with fail
  refine hc.out.mono ?_
  rintro _ w1 ⟨rfl, hb⟩
  rw [Ho.out]
  cases o with
  | none =>
    unfold changeV
    go_wp2_with fail
    go_ret
    exact ⟨by rw [Hr.out]; rfl, hb⟩
  | some x =>
    unfold changeV
    go_wp2_with fail
    go_ret
    exact ⟨by rw [Hr.out]; rfl, hb⟩

set_option maxHeartbeats 1000000 in
theorem members_any {S : Nat → Prop} (p : Value) (g : Lg) (n : Int) (hn : in64 n) (w : World) (h : LogAt S w p g.parts) (hg : g.Good) :
    Calls Tryz.prog 93 #[p, .int .i64 n] w fun e w' => e = .returned (.int .i64 (g.memAt n)) ∧ Below w.heap.size w w' := by
  have Hf := Lib.hid (find_lg p g n w h hg)
  have Hc := Lib.hid fun W (hb : Below w.heap.size w W) => change_call p g hg n hn W (h.keep hb)
  have Hg := Lib.hid fun W (hb : Below w.heap.size w W) => ground_any p g W (h.keep hb)
  obtain ⟨b, sv, vs, rfl, -⟩ := h
  go_enter Tryz.func93, Tryz.ntmps93
  go_wp2_with fail
  refine Hf.out.mono ?_
  rintro e w1 ⟨hp, hb⟩
  rcases hp with ⟨i, hi, v, hh, -, hv, rfl⟩ | ⟨hno, rfl⟩
  · have hin : g.a ≤ n ∧ n ≤ g.top := by
      rcases hg.part hi hh with ⟨-, rfl⟩ | ⟨j, hj, -, h1, h2, -⟩
      · exact ⟨Int.le_refl _, by unfold Lg.top; omega⟩
      · omega
    have hm := memAt_in hin.1 hin.2
    have Hm := Lib.hid hm
    clear hm
    have hvi : ∃ T u, v = .iface T u := by
      cases hq : g.parts[i] with
      | ground a t m => rw [hq] at hv; exact ⟨_, _, hv⟩
      | run f l => rw [hq] at hv; obtain ⟨sv, hv, -⟩ := hv; exact ⟨_, _, hv⟩
    obtain ⟨T, u, rfl⟩ := hvi
    clear hv hh
    go_wp2_with fail
    refine (Hc.out w1 hb).mono ?_
    rintro _ w2 ⟨rfl, hb2⟩
    obtain ⟨o, ho⟩ : ∃ o, g.change n = o := ⟨_, rfl⟩
    rw [ho]
    have Ho := Lib.hid ho
    clear ho
    cases o with
    | none =>
      unfold changeV
      go_wp2_with (go_at_call 91; refine (Hg.out _ (below_then hb hb2)).mono ?_; rintro _ w3 ⟨rfl, hb3⟩)
      go_ret
      exact ⟨by rw [Hm.out, Ho.out]; rfl, below_then (below_then hb hb2) hb3⟩
    | some x =>
      unfold changeV
      go_wp2_with fail
      go_ret
      exact ⟨by rw [Hm.out, Ho.out]; rfl, below_then hb hb2⟩
  · have hno' := hg.noPart fun j hj => hno j hj hj
    have Hm := Lib.hid (show g.memAt n = 0 by unfold Lg.memAt; rw [if_pos hno'])
    clear hno hno'
    go_wp2_with fail
    go_ret
    exact ⟨by rw [Hm.out]; rfl, hb⟩

theorem over_none {S : Nat → Prop} (p : Value) (g : Lg) (n : Int) (w : World) (h : LogAt S w p g.parts) (hg : g.Good) (hn : n < g.a ∨ g.top < n) :
    Calls Tryz.prog 75 #[p, .int .i64 n] w fun e w' => e = .returned (.tuple #[.pointer none, .int .i64 1]) ∧ Below w.heap.size w w' := by
  have Hf := Lib.hid (find_lg p g n w h hg)
  obtain ⟨b, sv, vs, rfl, -⟩ := h
  go_enter Tryz.func75, Tryz.ntmps75
  go_wp2_with fail
  refine Hf.out.mono ?_
  rintro e w1 ⟨hp, hb⟩
  rcases hp with ⟨i, hi, v, hh, -, hv, rfl⟩ | ⟨hno, rfl⟩
  · exfalso
    rcases hg.part hi hh with ⟨-, rfl⟩ | ⟨j, hj, -, h1, h2, -⟩
    · unfold Lg.top at hn; omega
    · omega
  · clear hno
    go_wp2_with fail
    go_ret2
    exact ⟨rfl, hb⟩

/-- The new log: its row and what its parts are. -/
theorem over_log {S : Nat → Prop} {w w7 : World} {ps : List Part} {vs : List Value} {A : Option Addr} {n cap : Nat} (hown : w7.ownsRow w.heap.size 128 1 (.slice A n cap) n vs) (hn : n = ps.length)
    (hpc : PartCells (fun b => S b ∧ b < w.heap.size) w7 ps vs) (hb : Below w.heap.size w w7) :
    LogAt (fun b => S b ∨ w.heap.size ≤ b) (w7.alloc (.cells #[.slice A n cap] 125)) (.pointer (some ⟨w7.heap.size, 0, none⟩)) ps := by
  have hs := hb.size
  refine ⟨_, _, vs, rfl, .inr hs, (cells1 (blk_new w7 _)).1, ?_, ?_⟩
  · rw [← hn]
    exact ((RowAt.of_own hown).mono (T := fun b => S b ∨ w.heap.size ≤ b) (fun b _ h => .inr h)).keep (box_below _ _)
  · exact (hpc.keepS (Same.of_below' (box_below _ _) _)).mono fun b _ h => .inl h.1
/-- A slice of one cell, made anew. -/
theorem own_one {W : World} {base : Nat} {e : TypeId} {x : Value} (hB : base ≤ W.heap.size) : (W.alloc (.cells #[x] e)).ownsRow base e 1 (.slice (some ⟨W.heap.size, 0, none⟩) 1 1) 1 [x] :=
  ⟨rfl, .inr ⟨_, _, _, rfl, hB, blk_new W _, Nat.le_refl _, by simp [maxLen], rfl, rfl⟩⟩
theorem same_old {w W W' : World} {g : Nat} (_hw : w.heap.size ≤ W.heap.size) (hg : W.grownBy W' (some g)) (hge : w.heap.size ≤ g) : Same (· < w.heap.size) W W' :=
  ⟨hg.size, fun b hb hlt => hg.block b hlt (by simp; have : b < w.heap.size := hb; omega)⟩

set_option maxRecDepth 100000 in
set_option maxHeartbeats 2000000 in
theorem over_floor {S : Nat → Prop} (p : Value) (g : Lg) (w : World) (h : LogAt S w p g.parts) (hg : g.Good) :
    Calls Tryz.prog 75 #[p, .int .i64 g.a] w fun e w' => ∃ q, e = .returned (.tuple #[.pointer (some q), .int .i64 0]) ∧ LogAt (fun b => S b ∨ w.heap.size ≤ b) w' (.pointer (some q)) (g.over g.a).parts ∧ Below w.heap.size w w' := by
  have ga0 := hg.a0
  have ga1 := hg.a1
  have Hf := Lib.hid (find_lg p g g.a w h hg)
  have Hmem := Lib.hid fun W (hb : Below w.heap.size w W) => members_any p g g.a ⟨by omega, by omega⟩ W (h.keep hb) hg
  have hover := hg.over_floor
  have htop : g.a ≤ g.top := by unfold Lg.top; omega
  have h' := h.mono (T := fun b => S b ∧ b < w.heap.size) fun b h1 h2 => ⟨h2, h1⟩
  obtain ⟨b, sv, vs, rfl, -, hcell, hrow, hpc⟩ := h'
  obtain ⟨pb, po, pc, rfl, hpn, hpcm, -, hlt, hcells⟩ := hrow.form (by simp [Lg.parts])
  have hple := hg.parts_le
  have hplen := g.parts_length
  obtain ⟨v0, vs1, rfl, -, hpc1⟩ : ∃ v vs', vs = v :: vs' ∧ PartV (fun b => S b ∧ b < w.heap.size) w v (.ground g.a g.t g.m) ∧ PartCells (fun b => S b ∧ b < w.heap.size) w (g.rs.map fun r : Int × List Ent => Part.run r.1 r.2) vs' := hpc
  have hl1 := hpc1.length
  simp at hl1
  obtain ⟨i0, hi, hz0, hz1, hz2⟩ := info_parts infoPart
  have Hpc1 := Lib.hid hpc1
  have Hl1 := Lib.hid hl1
  have Hc := Lib.hid hcells
  have Hpl := Lib.hid hplen
  have Hov := Lib.hid hover
  have hcap : pc ≤ 9223372036854775807 := hpcm
  rw [hplen] at hcell hpn hple
  obtain ⟨len, hlen⟩ : ∃ len, g.rs.length + 1 = len := ⟨_, rfl⟩
  rw [hlen] at hcell hpn hple
  have Hlen := Lib.hid hlen
  have hlen1 : 1 ≤ len := by omega
  clear hpc1 hl1 hcells hrow hover hplen hlen h
  go_enter Tryz.func75, Tryz.ntmps75
  go_wp2_with fail
  refine Hf.out.mono ?_
  rintro e w1 ⟨hp, hb⟩
  rcases hp with ⟨i, hi', v, hh, hno, hv, rfl⟩ | ⟨hno, rfl⟩
  rotate_left
  · have := hg.noPart fun j hj => hno j hj hj
    omega
  obtain rfl : i = 0 := by
    rcases hg.part hi' hh with ⟨h0, -⟩ | ⟨j, hj, -, h1, -⟩
    · exact h0
    · omega
  rw [g.parts_zero] at hv
  obtain rfl := hv
  have hcell1 := cell_keep hb hcell
  clear hno hh
  have Ht := Lib.hid (Lg.Good.termAt_ground (g := g))
  by_cases hp1 : pc = 1
  · obtain rfl := hp1
    obtain rfl : len = 1 := by omega
    go_wp2_with (first | (go_at_call 168; refine (last_ground g.a g.t g.m _).mono ?_; rintro _ w2 ⟨rfl, hb2⟩) | (go_at_call 93; refine (Hmem.out _ (below_then hb hb2)).mono ?_; rintro _ w3 ⟨rfl, hb3⟩; have hcell3 := cell_keep hb3 (cell_keep hb2 hcell1); have hcell5 := fun o1 o2 => cell_keep (below_two w3 o1 o2) hcell3) | (at_builtin; refine wpList_append_own_at _ rfl _ _ 123 rfl w.heap.size 128 i0 .nilIface 1 16 Tryz.underlying123 hi hz0 hz1 hz2 rfl (by decide) _ 1 [.iface 122 (.agg #[.int .i64 g.a, .int .i64 g.t, .int .i64 (g.memAt g.a)])] rfl ?ho ⟨pb, po, none⟩ 0 0 [] rfl rfl ?hn ?h1 ?hm ?h7 ?hB ?_))
    case ho => exact own_keep (own_one (below_then (below_then hb hb2) hb3).size) (box_below _ _)
    case hn => intro j u hu; simp at hu
    case h1 => simp
    case hm => simp [maxLen]
    case h7 => omega
    case hB => have := (below_then (below_then hb hb2) hb3).size; simp; omega
    intro v' w6 hown hg6 _ _
    obtain ⟨gb, cap, rfl, hgb, hgl⟩ := hown.form (by omega)
    have hb5 := below_then (below_then hb hb2) hb3
    have hb6 : Below w.heap.size w w6 := (below_alloc (below_alloc hb5 _) _).grown hg6 (by have := hb5.size; simp; omega) (fun k hk => by simp [Value.ownBlock] at hk; have := hb5.size; omega)
    have hsm : Same (· < w.heap.size) w w6 := Same.of_below hb6
    have Hown := Lib.hid hown
    have hrs : g.rs = [] := by have := Hlen.out; exact List.eq_nil_of_length_eq_zero (by omega)
    have Hrs := Lib.hid hrs
    clear hown hg6 hrs
    go_wp2_with fail
    go_ret2
    refine ⟨_, rfl, ?_, below_alloc hb6 _⟩
    have hpp : (g.over g.a).parts = [.ground g.a g.t (g.memAt g.a)] := by rw [Hov.out, Ht.out]; simp [Lg.parts, Hrs.out]
    rw [hpp]
    exact over_log Hown.out rfl ⟨_, [], rfl, rfl, rfl⟩ hb6
  · have hp2 : 1 < pc := by omega
    have hp3 : ¬ (pc : Int) = 1 := by omega
    have hvl : vs1.length = len - 1 := by have := Hl1.out; have := Hlen.out; omega
    have Hvl := Lib.hid hvl
    clear hvl
    go_wp2_with (first | (go_at_call 168; refine (last_ground g.a g.t g.m _).mono ?_; rintro _ w2 ⟨rfl, hb2⟩) | (go_at_call 93; refine (Hmem.out _ (below_then hb hb2)).mono ?_; rintro _ w3 ⟨rfl, hb3⟩; have hcell3 := cell_keep hb3 (cell_keep hb2 hcell1); have hcell5 := fun o1 o2 => cell_keep (below_two w3 o1 o2) hcell3) | (at_builtin; refine wpList_append_own_at _ rfl _ _ 123 rfl w.heap.size 128 i0 .nilIface 1 16 Tryz.underlying123 hi hz0 hz1 hz2 rfl (by decide) _ 1 [.iface 122 (.agg #[.int .i64 g.a, .int .i64 g.t, .int .i64 (g.memAt g.a)])] rfl ?ho ⟨pb, po + 1, none⟩ (len - 1) (pc - 1) vs1 rfl ?hl ?hn ?h1 ?hm ?h7 ?hB ?_))
    case ho => exact own_keep (own_one (below_then (below_then hb hb2) hb3).size) (box_below _ _)
    case hl => rw [Hvl.out]; omega
    case hn =>
      intro j u hu
      rw [add_plain, show po + 1 + j = po + (j + 1) by omega]
      exact cell_keep (below_alloc (below_alloc (below_then (below_then hb hb2) hb3) _) _) (Hc.out (j + 1) u (by simpa using hu))
    case h1 => exact Hpc1.out.one
    case hm => simp [maxLen]; omega
    case h7 => omega
    case hB => have := (below_then (below_then hb hb2) hb3).size; simp; omega
    intro v' w6 hown hg6 _ _
    obtain ⟨gb, cap, rfl, hgb, hgl⟩ := hown.form (by omega)
    have hb5 := below_then (below_then hb hb2) hb3
    have hb6 : Below w.heap.size w w6 := (below_alloc (below_alloc hb5 _) _).grown hg6 (by have := hb5.size; simp; omega) (fun k hk => by simp [Value.ownBlock] at hk; have := hb5.size; omega)
    have hsm : Same (· < w.heap.size) w w6 := Same.of_below hb6
    have Hown := Lib.hid hown
    clear hown hg6
    go_wp2_with fail
    go_ret2
    refine ⟨_, rfl, ?_, below_alloc hb6 _⟩
    have hpp : (g.over g.a).parts = .ground g.a g.t (g.memAt g.a) :: g.rs.map fun r : Int × List Ent => Part.run r.1 r.2 := by rw [Hov.out, Ht.out]; rfl
    rw [hpp]
    exact over_log Hown.out (by have := Hlen.out; simp; omega) ⟨_, vs1, rfl, rfl, Hpc1.out.keepS (hsm.mono fun b hb => hb.2)⟩ hb6
end Go.Proofs.YtahagecdebadfaaGreat

namespace Go.Proofs.YtahagecdebadfaaGreat
open Go.RowKit
attribute [local go_sem ↓] Go.wp_at_zero Go.wp_at_succ

/-- The members as of the log's top. -/
def Lg.mem (g : Lg) : Nat := (g.memAt g.top).toNat
theorem Lg.Good.top0 {g : Lg} (_h : g.Good) : g.a ≤ g.top := by unfold Lg.top; omega
theorem Lg.Good.topR {g : Lg} (h : g.Good) : 0 ≤ g.top ∧ g.top ≤ 1099511631872 := by
  have h1 := h.a0
  have h2 := h.a1
  have h3 := h.len
  unfold Lg.top
  omega
theorem Lg.Good.mem {g : Lg} (h : g.Good) : (g.mem : Int) = g.memAt g.top ∧ 1 ≤ g.mem ∧ g.mem ≤ 31 := by
  have := h.memAt h.top0 (Int.le_refl _)
  unfold Lg.mem
  omega
set_option maxHeartbeats 1000000 in
theorem rmembers_any {S : Nat → Prop} (p : Nat) (x0 x1 x2 x3 lv x5 x6 x7 x8 x9 x10 x11 x12 : Value) (g : Lg) (w : World) (h : w.heap[p]? = some (.cells #[x0, x1, x2, x3, lv, x5, x6, x7, x8, x9, x10, x11, x12] 92 (0, 0))) (hL : LogAt S w lv g.parts) (hg : g.Good) :
    Calls Tryz.prog 43 #[.pointer (some ⟨p, 0, none⟩)] w fun e w' => e = .returned (.int .i64 (g.mem : Nat)) ∧ Below w.heap.size w w' := by
  obtain ⟨⟨c0, c1, c2, c3, c4, c5, c6, c7, c8, c9, c10, c11, c12⟩, hf⟩ := cells13 h
  have Ht := Lib.hid (top_run lv g w hL hg)
  have htop := hg.topR
  have Hm := Lib.hid fun W (hb : Below w.heap.size w W) => members_any lv g g.top ⟨by omega, by omega⟩ W (hL.keep hb) hg
  have He := Lib.hid hg.mem.1
  clear hL hg
  go_enter Tryz.func43, Tryz.ntmps43
  go_wp2_with fail
  refine Ht.out.mono ?_
  rintro e w1 ⟨rfl, hb1⟩
  have k4 := cell_keep hb1 c4
  go_wp2_with fail
  refine (Hm.out _ hb1).mono ?_
  rintro e w2 ⟨rfl, hb2⟩
  go_wp2_with fail
  go_ret
  exact ⟨by rw [He.out]; rfl, below_then hb1 hb2⟩
set_option maxHeartbeats 1000000 in
theorem ralone_any {S : Nat → Prop} (p : Nat) (x0 x1 x2 x3 lv x5 x6 x7 x8 x9 x10 x11 x12 : Value) (g : Lg) (w : World) (h : w.heap[p]? = some (.cells #[x0, x1, x2, x3, lv, x5, x6, x7, x8, x9, x10, x11, x12] 92 (0, 0))) (hL : LogAt S w lv g.parts) (hg : g.Good) :
    Calls Tryz.prog 42 #[.pointer (some ⟨p, 0, none⟩)] w fun e w' => e = .returned (.bool (decide (pop g.mem < 2))) ∧ Below w.heap.size w w' := by
  have Hm := Lib.hid (rmembers_any p _ _ _ _ _ _ _ _ _ _ _ _ _ g w h hL hg)
  have hm := hg.mem
  have Hs := Lib.hid fun W => ssize_any g.mem (by omega) W
  have He := Lib.hid (show decide (((pop g.mem : Nat) : Int) < 2) = decide (pop g.mem < 2) from decide_eq_decide.2 (by omega))
  clear hL hg h hm
  go_enter Tryz.func42, Tryz.ntmps42
  go_wp2_with fail
  refine Hm.out.mono ?_
  rintro e w1 ⟨rfl, hb1⟩
  go_wp2_with fail
  refine (Hs.out _).mono ?_
  rintro e w2 ⟨rfl, rfl⟩
  go_wp2_with fail
  go_ret
  exact ⟨congrArg (fun x => Ending.returned (.bool x)) He.out, hb1⟩
end Go.Proofs.YtahagecdebadfaaGreat

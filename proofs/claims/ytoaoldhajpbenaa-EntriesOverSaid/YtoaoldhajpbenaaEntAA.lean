/- Two logs that begin alike: what a join makes of the one with a part of the other, and how going back ends. Plain Lean, no program. -/
import Derived.Test.YtoaoldhajpbenaaEntT
namespace Go.Proofs.Ytoaoldhajpbenaa

theorem okSeq_right : ∀ {t : Int} {l : List Ent}, okSeq t l = true → ∀ e ∈ l, rightB e = true
  | _, [], _, e, h => by simp at h
  | _, x :: l, hk, e, h => by
    simp only [okSeq, Bool.and_eq_true] at hk
    rcases List.mem_cons.1 h with rfl | h
    · exact hk.1.1
    · exact okSeq_right hk.2 e h
theorem right_pos {e : Ent} (h : rightB e = true) : 1 ≤ e.term := by
  simp only [rightB, Bool.and_eq_true, decide_eq_true_eq] at h
  exact h.1.1.1
theorem Lg.termAt_get {g : Lg} (i : Nat) (hi : i < g.ents.length) : g.termAt (g.a + i + 1) = g.ents[i].term := by
  unfold Lg.termAt
  rw [if_neg (by omega), if_pos (by unfold Lg.top; omega)]
  have : (g.a + (i : Int) + 1 - g.a - 1).toNat = i := by omega
  rw [this, List.getElem?_eq_getElem hi]; rfl
theorem Lg.Good.term_pos {g : Lg} (h : g.Good) {n : Int} (h1 : g.a ≤ n) (h2 : n ≤ g.top) : 0 ≤ g.termAt n := by
  by_cases hn : n = g.a
  · subst hn; rw [Lg.Good.termAt_ground]; exact h.t0
  · obtain ⟨i, rfl⟩ : ∃ i : Nat, n = g.a + i + 1 := ⟨(n - g.a - 1).toNat, by omega⟩
    have hi : i < g.ents.length := by unfold Lg.top at h2; omega
    rw [Lg.termAt_get i hi]
    have := right_pos (okSeq_right h.okEnts _ (List.getElem_mem hi))
    omega
theorem skipN_at (g : Lg) : ∀ (at_ : Int) (P : List Ent) (i : Nat), i < skipN g at_ P → ∃ h : i < P.length, g.termAt (at_ + i + 1) = P[i].term
  | _, [], i, h => by simp [skipN] at h
  | at_, e :: l, i, h => by
    simp only [skipN] at h
    split at h
    · rename_i hc
      cases i with
      | zero => exact ⟨by simp, by simpa using hc.2⟩
      | succ i =>
        obtain ⟨h1, h2⟩ := skipN_at g (at_ + 1) l i (by omega)
        refine ⟨by simpa using h1, ?_⟩
        have e : at_ + ((i + 1 : Nat) : Int) + 1 = at_ + 1 + i + 1 := by omega
        rw [e, h2]; rfl
    · omega
theorem skipN_all (g : Lg) : ∀ (at_ : Int) (P : List Ent), (∀ i (hi : i < P.length), 0 ≤ P[i].term ∧ g.termAt (at_ + i + 1) = P[i].term) → skipN g at_ P = P.length
  | _, [], _ => rfl
  | at_, e :: l, h => by
    have h0 := h 0 (by simp)
    simp only [List.getElem_cons_zero, Int.natCast_zero, Int.add_zero] at h0
    simp only [skipN]
    rw [if_pos h0, skipN_all g (at_ + 1) l fun i hi => ?_]
    · simp
    · have h1 := h (i + 1) (by simpa using hi)
      have e : at_ + ((i + 1 : Nat) : Int) + 1 = at_ + 1 + i + 1 := by omega
      rw [e] at h1
      simpa using h1

/-- Two logs over the same floor at 0. -/
structure Two (G H : Lg) : Prop where
  gG : G.Good
  hG : H.Good
  ga : G.a = 0
  ha : H.a = 0
  gt : G.t = 0
  ht : H.t = 0

section
variable {G H : Lg}
theorem Two.gtop (h : Two G H) : G.top = G.ents.length := by unfold Lg.top; rw [h.ga]; omega
theorem Two.htop (h : Two G H) : H.top = H.ents.length := by unfold Lg.top; rw [h.ha]; omega
theorem Two.gterm (h : Two G H) (i : Nat) (hi : i < G.ents.length) : G.termAt ((i : Int) + 1) = G.ents[i].term := by
  have := Lg.termAt_get (g := G) i hi
  rwa [h.ga, Int.zero_add] at this
theorem Two.hterm (h : Two G H) (i : Nat) (hi : i < H.ents.length) : H.termAt ((i : Int) + 1) = H.ents[i].term := by
  have := Lg.termAt_get (g := H) i hi
  rwa [h.ha, Int.zero_add] at this
theorem Two.glast (h : Two G H) (n : Nat) (hn : n ≤ G.ents.length) : lastT 0 (G.ents.take n) = G.termAt n := by
  have := Lg.Good.uptoTerm (g := G) (n := n) (by rw [h.ga]; omega) (by rw [h.gtop]; omega)
  rw [h.ga, h.gt] at this
  simpa using this
theorem Two.hlast (h : Two G H) (n : Nat) (hn : n ≤ H.ents.length) : lastT 0 (H.ents.take n) = H.termAt n := by
  have := Lg.Good.uptoTerm (g := H) (n := n) (by rw [h.ha]; omega) (by rw [h.htop]; omega)
  rw [h.ha, h.ht] at this
  simpa using this

/-- Behind a place at which both have one term: what the other one has there joins. -/
theorem Two.go (h : Two G H) (n k0 : Nat) (hn : n ≤ G.ents.length) (hn' : n ≤ H.ents.length) (hT : G.termAt n = H.termAt n) (P : List Ent) (hP : P = (H.ents.drop n).take k0) :
    ∃ k : Nat, (∀ i, i < k → i < P.length ∧ G.termAt ((n + i : Nat) + 1 : Int) = H.termAt ((n + i : Nat) + 1 : Int)) ∧ n + k ≤ G.ents.length ∧
      ((k = P.length ∧ G.joinGo n P = ⟨some G.ents, true, n + P.length, 0, 0⟩) ∨
       (k < P.length ∧ G.joinGo n P = ⟨some (G.ents.take (n + k) ++ P.drop k), true, n + P.length, n + k + 1, 0⟩ ∧ okSeq 0 (G.ents.take (n + k) ++ P.drop k) = true)) := by
  have hPl : P.length ≤ H.ents.length - n := by rw [hP]; simp; omega
  have hPi : ∀ i (hi : i < P.length), P[i] = H.ents[n + i]'(by omega) := by
    intro i hi
    subst hP
    rw [List.getElem_take, List.getElem_drop]
  have hPd : ∀ q, P.drop q = (H.ents.drop (n + q)).take (k0 - q) := by
    intro q; subst hP; rw [List.drop_take, List.drop_drop]
  have hk := skipN_le G n P
  have hat := skipN_at G n P
  have hin := skipN_in G n P (by rw [h.ga]; omega) (by rw [h.gtop]; omega)
  have hall : ∀ i, i < skipN G n P → i < P.length ∧ G.termAt ((n + i : Nat) + 1 : Int) = H.termAt ((n + i : Nat) + 1 : Int) := by
    intro i hi
    obtain ⟨h1, h2⟩ := hat i hi
    refine ⟨h1, ?_⟩
    rw [h.hterm (n + i) (by omega), ← hPi i h1, ← h2]
    congr 1
  refine ⟨skipN G n P, hall, by rw [h.gtop] at hin; omega, ?_⟩
  rcases Nat.lt_or_ge (skipN G n P) P.length with hlt | hge
  · right
    have hnk : n + skipN G n P ≤ G.ents.length := by rw [h.gtop] at hin; omega
    have hTk : G.termAt ((n + skipN G n P : Nat) : Int) = H.termAt ((n + skipN G n P : Nat) : Int) := by
      rcases Nat.eq_zero_or_pos (skipN G n P) with h0 | h0
      · rw [h0]; simpa using hT
      · have := (hall (skipN G n P - 1) (by omega)).2
        have e : ((n + (skipN G n P - 1) : Nat) + 1 : Int) = ((n + skipN G n P : Nat) : Int) := by omega
        rwa [e] at this
    have hok : okSeq (G.termAt ((n + skipN G n P : Nat) : Int)) (P.drop (skipN G n P)) = true := by
      rw [hTk, ← h.hlast _ (by omega)]
      have h1 := h.hG.okEnts
      rw [h.ht, ← List.take_append_drop (n + skipN G n P) H.ents, okSeq_append, Bool.and_eq_true] at h1
      rw [hPd]
      exact okSeq_take _ h1.2
    have hlen : (n : Int) + P.length - G.a ≤ 4096 := by have := h.hG.len; rw [h.ga]; omega
    have e1 : (n : Int) + (skipN G n P : Int) = ((n + skipN G n P : Nat) : Int) := by omega
    refine ⟨hlt, ?_, ?_⟩
    · unfold Lg.joinGo
      simp only []
      rw [if_neg (by omega), if_pos ⟨by rw [e1]; exact hok, hlen⟩, e1, h.ga, Int.sub_zero, Int.toNat_natCast]
    · rw [okSeq_append, h.glast _ hnk, hok, Bool.and_true]
      have := okSeq_take (n + skipN G n P) h.gG.okEnts
      rwa [h.gt] at this
  · left
    refine ⟨by omega, ?_⟩
    unfold Lg.joinGo
    simp only []
    rw [if_pos hge]

/-- Entries of which a log can be made over the floor. -/
theorem Two.make (h : Two G H) {es : List Ent} (hok : okSeq 0 es = true) (hl : es.length ≤ 4096) (hm : G.m = 7) :
    Two (Lg.of G.a G.t G.m es) H ∧ (Lg.of G.a G.t G.m es).ents = es := by
  have h1 := h.gG.floor.of (es := es) (by rw [h.gt]; exact hok) hl
  exact ⟨⟨h1.1, h.hG, by rw [h1.2.2.2.1, h.ga], h.ha, by rw [h1.2.2.2.2.1, h.gt], h.ht⟩, h1.2.1⟩

/-- Joined behind a place up to which both are the same. -/
theorem Two.joined (h : Two G H) (hm : G.m = 7) (n k0 : Nat) (hn : n ≤ G.ents.length) (hn' : n ≤ H.ents.length) (hpre : G.ents.take n = H.ents.take n) (P : List Ent) (hP : P = (H.ents.drop n).take k0) :
    ∃ (es : List Ent) (fr : Int) (X : Lg), G.join n (H.termAt n) P = ⟨some es, true, n + P.length, fr, 0⟩ ∧ X = Lg.of G.a G.t G.m es ∧ X.Good ∧ 0 ≤ fr ∧ fr ≤ n + P.length ∧
      (∀ i : Nat, i ≤ n + P.length → X.termAt i = H.termAt i) ∧
      (0 < fr → X.slice fr (n + P.length) = H.slice fr (n + P.length - fr + 1)) ∧
      X.join n (H.termAt n) P = ⟨some es, true, n + P.length, 0, 0⟩ ∧ (fr = 0 ∨ X.top = n + P.length) ∧ X.ents = es := by
  have hT : ∀ i : Nat, i ≤ n → G.termAt i = H.termAt i := by
    intro i hi
    rw [← h.glast i (by omega), ← h.hlast i (by omega)]
    have e : ∀ l : List Ent, l.take i = (l.take n).take i := fun l => by rw [List.take_take]; congr 1; omega
    rw [e G.ents, e H.ents, hpre]
  have hPl : P.length ≤ H.ents.length - n := by rw [hP]; simp; omega
  have hPi : ∀ i (hi : i < P.length), P[i] = H.ents[n + i]'(by omega) := by
    intro i hi
    subst hP
    rw [List.getElem_take, List.getElem_drop]
  have hpos : ∀ i (hi : i < P.length), 0 ≤ P[i].term := fun i hi => by
    have := right_pos (okSeq_right h.hG.okEnts P[i] (by rw [hPi i hi]; exact List.getElem_mem _))
    omega
  have hTn := h.hG.term_pos (n := n) (by rw [h.ha]; omega) (by rw [h.htop]; omega)
  obtain ⟨k, hk1, hk2, hk3⟩ := h.go n k0 hn hn' (hT n (Nat.le_refl _)) P hP
  have hjoin : ∀ X : Lg, X.a = 0 → X.termAt n = H.termAt n → X.join n (H.termAt n) P = X.joinGo n P := by
    intro X hX hXn
    unfold Lg.join
    rw [if_pos (by rw [hX]; omega), if_neg (by rw [hXn]; omega)]
  have hGT : ∀ i : Nat, i ≤ n + k → G.termAt i = H.termAt i := by
    intro i hi
    by_cases hin : i ≤ n
    · exact hT i hin
    · obtain ⟨j, rfl⟩ : ∃ j, i = n + j + 1 := ⟨i - n - 1, by omega⟩
      have := (hk1 j (by omega)).2
      simpa using this
  -- what is the same for both ways
  have fin : ∀ (es : List Ent) (X : Lg), X = Lg.of G.a G.t G.m es → X.Good → X.a = 0 → X.ents = es → (∀ i : Nat, i ≤ n + P.length → X.termAt i = H.termAt i) → X.join n (H.termAt n) P = ⟨some es, true, n + P.length, 0, 0⟩ := by
    intro es X _ _ hXa hXe hall
    rw [hjoin X hXa (hall n (by omega))]
    have hs : skipN X n P = P.length := by
      refine skipN_all X n P fun i hi => ⟨hpos i hi, ?_⟩
      have := hall (n + i + 1) (by omega)
      have e : ((n + i + 1 : Nat) : Int) = (n : Int) + i + 1 := by omega
      rw [e] at this
      rw [this, hPi i hi, ← h.hterm (n + i) (by omega)]
      congr 1
    unfold Lg.joinGo
    simp only []
    rw [hs, if_pos (Nat.le_refl _), hXe]
  rcases hk3 with ⟨hk, hgo⟩ | ⟨hk, hgo, hok⟩
  · obtain ⟨hX, hXe⟩ := h.make (es := G.ents) (by have := h.gG.okEnts; rwa [h.gt] at this) h.gG.len hm
    have hG : G = Lg.of G.a G.t G.m G.ents := h.gG.eq_of
    refine ⟨G.ents, 0, G, ?_, hG, h.gG, Int.le_refl _, by omega, fun i hi => hGT i (by omega), fun h => absurd h (by decide), ?_, .inl rfl, rfl⟩
    · rw [hjoin G h.ga (hT n (Nat.le_refl _)), hgo]
    · exact fin _ G hG h.gG h.ga rfl fun i hi => hGT i (by omega)
  · have hlen : (G.ents.take (n + k) ++ P.drop k).length = n + P.length := by simp; omega
    obtain ⟨hX, hXe⟩ := h.make hok (by rw [hlen]; have := h.hG.len; omega) hm
    obtain ⟨X, hXd⟩ : ∃ X, X = Lg.of G.a G.t G.m (G.ents.take (n + k) ++ P.drop k) := ⟨_, rfl⟩
    rw [← hXd] at hX hXe
    have hXT : ∀ i : Nat, i ≤ n + P.length → X.termAt i = H.termAt i := by
      intro i hi
      by_cases hik : i ≤ n + k
      · rw [← hGT i hik, ← hX.glast i (by rw [hXe]; omega), ← h.glast i (by omega), hXe]
        congr 1
        rw [List.take_append_of_le_length (by simp; omega), List.take_take]
        congr 1; omega
      · obtain ⟨j, rfl⟩ : ∃ j, i = n + j + 1 := ⟨i - n - 1, by omega⟩
        have e1 : ((n + j + 1 : Nat) : Int) = ((n + j : Nat) : Int) + 1 := by omega
        rw [e1, hX.gterm (n + j) (by rw [hXe]; omega), h.hterm (n + j) (by omega)]
        congr 1
        have : X.ents[n + j]'(by rw [hXe]; omega) = (G.ents.take (n + k) ++ P.drop k)[n + j]'(by omega) := by simp only [hXe]
        rw [this, List.getElem_append_right (by simp; omega), List.getElem_drop, hPi _ (by simp; omega)]
        congr 1
        simp; omega
    refine ⟨_, (n : Int) + k + 1, X, ?_, hXd, hX.gG, by omega, by omega, hXT, fun _ => ?_, ?_, .inr ?_, hXe⟩
    · rw [hjoin G h.ga (hT n (Nat.le_refl _)), hgo]
    · have hXt := hX.gtop
      have e1 : X.slice ((n : Int) + k + 1) (n + P.length) = P.drop k := by
        unfold Lg.slice
        rw [if_pos ⟨by rw [hX.ga]; omega, by rw [hXt, hXe, hlen]; omega⟩, hX.ga, hXe]
        have e : ((n : Int) + k + 1 - 0 - 1).toNat = (G.ents.take (n + k)).length := by simp; omega
        rw [e, List.drop_left, List.take_of_length_le (by simp; omega)]
      have e2 : H.slice ((n : Int) + k + 1) (n + P.length - ((n : Int) + k + 1) + 1) = P.drop k := by
        unfold Lg.slice
        rw [if_pos ⟨by rw [h.ha]; omega, by rw [h.htop]; omega⟩, h.ha]
        have e : ((n : Int) + k + 1 - 0 - 1).toNat = n + k := by omega
        have e' : ((n : Int) + P.length - ((n : Int) + k + 1) + 1).toNat = P.length - k := by omega
        rw [e, e']
        conv => rhs; rw [hP]
        rw [List.drop_take, List.drop_drop]
        have hl : P.length = min k0 (H.ents.length - n) := by rw [hP]; simp
        apply List.ext_getElem
        · simp; omega
        · intro i h1 h2; simp
      rw [e1, e2]
    · exact fin _ X hXd hX.gG hX.ga hXe hXT
    · rw [hX.gtop, hXe, hlen]; simp

/-- Where a place lies: at the floor, in a run, above the top. -/
def Mark (g : Lg) (n : Int) (k : Nat) : Prop :=
  (k = 0 ∧ n = g.a) ∨ (∃ j, ∃ hj : j < g.rs.length, k = j + 1 ∧ g.rs[j].1 ≤ n ∧ n ≤ g.rs[j].1 + g.rs[j].2.length - 1) ∨ (k = g.rs.length + 1 ∧ g.top < n)
theorem Lg.Good.marked {g : Lg} (h : g.Good) {n : Int} (hn : g.a ≤ n) : ∃ k, k ≤ g.rs.length + 1 ∧ Mark g n k := by
  by_cases h1 : n = g.a
  · exact ⟨0, by omega, .inl ⟨rfl, h1⟩⟩
  · by_cases h2 : g.top < n
    · exact ⟨_, Nat.le_refl _, .inr (.inr ⟨rfl, h2⟩)⟩
    · unfold Lg.top Lg.ents at h2
      obtain ⟨j, hj, a1, a2⟩ := h.chain.find n (by omega) (by omega)
      exact ⟨j + 1, by omega, .inr (.inl ⟨j, hj, rfl, a1, a2⟩)⟩
theorem Lg.Good.gap {g : Lg} (h : g.Good) : ∀ (d i : Nat) (hj : i + d + 1 < g.rs.length), g.rs[i].1 + g.rs[i].2.length ≤ g.rs[i + d + 1].1
  | 0, i, hj => Int.le_of_eq (h.next i hj).symm
  | d + 1, i, hj => by
    have h1 := h.gap d i (by omega)
    have h2 := h.next (i + d + 1) hj
    have h3 : g.rs[i + (d + 1) + 1].1 = g.rs[i + d + 1].1 + g.rs[i + d + 1].2.length := h2
    omega
theorem Mark.back {g : Lg} (h : g.Good) {n : Int} {k : Nat} (hk : Mark g n (k + 1)) : Mark g (g.back n) k ∧ g.a ≤ g.back n ∧ g.back n < n := by
  have hle : ∀ j (hj : j < g.rs.length), g.rs[j].1 + g.rs[j].2.length - 1 ≤ g.top := fun j hj => by
    have h1 := (h.chain.at j hj).1
    have h2 := len_le_at g.rs j hj
    unfold Lg.top Lg.ents; omega
  rcases hk with ⟨h0, _⟩ | ⟨j, hj, e, h1, h2⟩ | ⟨e, h1⟩
  · omega
  · obtain rfl : k = j := by omega
    have hb : g.back n = g.rs[k].1 - 1 := by
      unfold Lg.back
      rw [if_neg (by have := hle k hj; omega), runStart_some k hj (fun i hi hik => ?_) (by simp [Part.has, h1, h2])]
      have := h.gap (k - i - 1) i (by omega)
      have e : g.rs[i + (k - i - 1) + 1] = g.rs[k] := by congr 1; omega
      rw [e] at this
      simp [Part.has]
      omega
    have ha := (h.chain.at k hj).1
    rw [hb]
    refine ⟨?_, by omega, by omega⟩
    cases k with
    | zero => exact .inl ⟨rfl, by have := h.first hj; omega⟩
    | succ j =>
      have h3 := h.next j hj
      have h4 : 0 < g.rs[j].2.length := List.length_pos_iff.2 (h.chain.at j (by omega)).2.1
      exact .inr (.inl ⟨j, by omega, rfl, by omega, by omega⟩)
  · obtain rfl : k = g.rs.length := by omega
    have hb : g.back n = g.top := by unfold Lg.back; rw [if_pos h1]
    have ht : g.a ≤ g.top := by unfold Lg.top; omega
    rw [hb]
    refine ⟨?_, ht, h1⟩
    rcases Nat.eq_zero_or_pos g.rs.length with h0 | h0
    · have hr : g.rs = [] := List.eq_nil_of_length_eq_zero h0
      exact .inl ⟨h0, by simp [Lg.top, Lg.ents, hr, allOf]⟩
    · have h3 := h.fin (g.rs.length - 1) (by omega)
      have h4 : 0 < g.rs[g.rs.length - 1].2.length := List.length_pos_iff.2 (h.chain.at (g.rs.length - 1) (by omega)).2.1
      exact .inr (.inl ⟨g.rs.length - 1, by omega, by omega, by unfold Lg.top; omega, by unfold Lg.top; omega⟩)

/-- A step back: it joins, or goes back to the end of the run ahead. -/
theorem Two.step (h : Two G H) (n : Nat) (hn : n ≤ H.ents.length) (k : Nat) (hk : Mark G n k) :
    (∃ es fin fr, G.join n (H.termAt n) (H.slice (n + 1) 4096) = ⟨some es, true, fin, fr, 0⟩) ∨
    (∃ (j m : Nat), k = j + 1 ∧ m < n ∧ G.join n (H.termAt n) (H.slice (n + 1) 4096) = ⟨none, false, 0, 0, m⟩ ∧ Mark G m j) := by
  have hj : G.join n (H.termAt n) (H.slice (n + 1) 4096) = if G.termAt n < 0 ∨ G.termAt n ≠ H.termAt n then ⟨none, false, 0, 0, G.back n⟩ else G.joinGo n (H.slice (n + 1) 4096) := by
    conv => lhs; unfold Lg.join
    rw [if_pos (by rw [h.ga]; omega)]
  by_cases hT : G.termAt n < 0 ∨ G.termAt n ≠ H.termAt n
  · right
    rw [if_pos hT] at hj
    cases k with
    | zero =>
      exfalso
      rcases hk with ⟨_, e⟩ | ⟨j, _, e, _⟩ | ⟨e, _⟩
      · rw [e, Lg.Good.termAt_ground, h.gt] at hT
        have e2 : G.a = H.a := by rw [h.ga, h.ha]
        rw [e2, Lg.Good.termAt_ground, h.ht] at hT
        omega
      · omega
      · omega
    | succ j =>
      obtain ⟨h1, h2, h3⟩ := hk.back h.gG
      rw [h.ga] at h2
      have e : ((G.back n).toNat : Int) = G.back n := by omega
      refine ⟨j, (G.back n).toNat, rfl, by omega, ?_, by rw [e]; exact h1⟩
      rw [hj, e]
  · left
    rw [if_neg hT] at hj
    have hg : n ≤ G.ents.length := by
      have := (Lg.termAt_in (g := G) (n := n) (by omega)).2
      rw [h.gtop] at this; omega
    have hP : H.slice (n + 1) 4096 = (H.ents.drop n).take 4096 := by
      unfold Lg.slice
      by_cases hlt : n < H.ents.length
      · rw [if_pos ⟨by rw [h.ha]; omega, by rw [h.htop]; omega⟩, h.ha]
        congr 1
        congr 1
        omega
      · rw [if_neg (by rw [h.htop]; omega), List.drop_eq_nil_of_le (by omega)]; rfl
    obtain ⟨k', -, -, hk3⟩ := h.go n 4096 hg hn (by omega) _ hP
    rw [hj]
    rcases hk3 with ⟨-, e⟩ | ⟨-, e, -⟩
    · exact ⟨_, _, _, e⟩
    · exact ⟨_, _, _, e⟩
end
end Go.Proofs.Ytoaoldhajpbenaa

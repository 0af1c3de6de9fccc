/- Nothing is greater than it was: plain law. No statement is proved here. -/
import Derived.Test.YtmehjcimohhopaaDoorTxtN
namespace Go.Proofs.YtmehjcimohhopaaDoor
open Go.RowKit

/-- What was agreed on, and what is now. -/
def Less (P Q : Par) : Prop := Q.bu ≤ P.bu ∧ Q.fi ≤ P.fi ∧ Q.mi = P.mi ∧ (512 ≤ P.mo ∧ P.mo ≤ 65536 → 512 ≤ Q.mo ∧ Q.mo ≤ 65536) ∧ (P.asked = true → Q.asked = true) ∧ (P.im = false → Q.im = false)
theorem Less.refl (P : Par) : Less P P := ⟨Int.le_refl _, Int.le_refl _, rfl, id, id, id⟩
theorem Less.trans {P Q R : Par} (h : Less P Q) (g : Less Q R) : Less P R :=
  ⟨Int.le_trans g.1 h.1, Int.le_trans g.2.1 h.2.1, g.2.2.1.trans h.2.2.1, fun x => g.2.2.2.1 (h.2.2.2.1 x), fun x => g.2.2.2.2.1 (h.2.2.2.2.1 x), fun x => g.2.2.2.2.2 (h.2.2.2.2.2 x)⟩
theorem numA_less {P : Par} {v : ByteArray} {lo hi : Int} {F : Int → Par × Ans} (hF : ∀ n, lo ≤ n → n ≤ hi → Less P (F n).1) : Less P (numA P v lo hi F).1 := by
  unfold numA
  split
  · rename_i h; exact hF _ h.2.1 h.2.2
  · exact Less.refl P
theorem swA_less {P : Par} {v : ByteArray} {F : Bool → Par × Ans} (hF : ∀ x, Less P (F x).1) : Less P (swA P v F).1 := by
  unfold swA
  split
  · exact hF _
  · split
    · exact hF _
    · exact Less.refl P
theorem digA_less {P : Par} {ws : List ByteArray} {F : Bool → Par} (hF : ∀ x, Less P (F x)) : Less P (digA P ws F).1 := by
  unfold digA
  split
  · exact hF _
  · exact Less.refl P
theorem ite_less {c : Prop} [Decidable c] {P : Par} {a b : Par × Ans} (ha : Less P a.1) (hb : Less P b.1) : Less P (if c then a else b).1 := by split; exact ha; exact hb
theorem ansP_less (P : Par) (k v : ByteArray) : Less P (ansP P k v).1 := by
  have r := Less.refl P
  obtain ⟨r1, r2, r3, r4, r5, r6⟩ := Less.refl P
  unfold ansP
  repeat' (with_reducible refine ite_less ?_ ?_)
  all_goals first
    | exact r
    | exact ⟨r1, r2, r3, r4, r5, r6⟩
    | (refine digA_less ?_; intro _; exact ⟨r1, r2, r3, r4, r5, r6⟩)
    | (refine swA_less ?_; intro _; exact r)
    | (refine swA_less ?_; intro x; exact ⟨r1, r2, r3, r4, fun h => by show (P.asked || x) = true; rw [h]; rfl, r6⟩)
    | (refine swA_less ?_; intro x; exact ⟨r1, r2, r3, r4, r5, fun h => by show (P.im && x) = false; rw [h]; rfl⟩)
    | (refine numA_less ?_; intro n h1 h2; exact r)
    | (refine numA_less ?_; intro n h1 h2; refine ⟨r1, r2, r3, fun _ => ?_, r5, r6⟩; show 512 ≤ (if 65536 < n then (65536 : Int) else n) ∧ (if 65536 < n then (65536 : Int) else n) ≤ 65536; split <;> omega)
    | (refine numA_less ?_; intro n h1 h2; refine ⟨?_, r2, r3, r4, r5, r6⟩; show (if n < P.bu then n else P.bu) ≤ P.bu; split <;> omega)
    | (refine numA_less ?_; intro n h1 h2; refine ⟨r1, ?_, r3, r4, r5, r6⟩; show (if n < P.fi then n else P.fi) ≤ P.fi; split <;> omega)

/-- A talk that comes to an end: nothing is greater; the keys told were offered, in that order. -/
theorem talkRun_less (P : Par) : ∀ (l : List Pr) (s : List Pr × Par) (done : List Pr), Less P s.2 → (s.1.map (·.1)).Sublist (done.map (·.1)) → ∀ t, l.foldl talkStep (some s) = some t → Less P t.2 ∧ (t.1.map (·.1)).Sublist ((done ++ l).map (·.1))
  | [], s, done, h, hs, t, ht => by
    obtain rfl : s = t := Option.some.inj ht
    rw [List.append_nil]
    exact ⟨h, hs⟩
  | p :: l, s, done, h, hs, t, ht => by
    have h1 : List.foldl talkStep (talkStep (some s) p) l = some t := ht
    cases hst : talkStep (some s) p with
    | none => rw [hst, talk_none] at h1; cases h1
    | some u =>
      rw [hst] at h1
      have h2 : (if (ansP s.2 p.1 p.2).2.ok = true then some (if (ansP s.2 p.1 p.2).2.told = true then s.1 ++ [(p.1, (ansP s.2 p.1 p.2).2.val)] else s.1, (ansP s.2 p.1 p.2).1) else none) = some u := hst
      split at h2
      · obtain rfl := Option.some.inj h2
        have h3 := talkRun_less P l _ (done ++ [p]) (h.trans (ansP_less s.2 p.1 p.2)) (by
          show ((if (ansP s.2 p.1 p.2).2.told = true then s.1 ++ [(p.1, (ansP s.2 p.1 p.2).2.val)] else s.1).map (·.1)).Sublist _
          split
          · rw [List.map_append, List.map_append]
            exact hs.append (List.Sublist.refl _)
          · rw [List.map_append]
            exact hs.trans (List.sublist_append_left _ _)) t h1
        rw [List.append_assoc] at h3
        exact h3
      · cases h2
/-- All that the law asks of a talk. -/
theorem talkP_less (P : Par) (l : List Pr) : ((talkP P l).2.2 = 1 ∧ (talkP P l).1 = [] ∧ (talkP P l).2.1 = P) ∨
    ((talkP P l).2.2 = 0 ∧ Less P (talkP P l).2.1 ∧ (talkP P l).2.1.fi ≤ (talkP P l).2.1.bu ∧ ((talkP P l).1.map (·.1)).Sublist (l.map (·.1))) := by
  unfold talkP
  cases h : talkRun P l with
  | none => exact .inl ⟨rfl, rfl, rfl⟩
  | some t =>
    obtain ⟨h1, h2⟩ := talkRun_less P l ([], P) [] (Less.refl P) (List.Sublist.refl _) t h
    right
    refine ⟨rfl, h1.trans ⟨Int.le_refl _, ?_, rfl, id, id, id⟩, ?_, by simpa using h2⟩
    · show (if t.2.bu < t.2.fi then t.2.bu else t.2.fi) ≤ t.2.fi
      split <;> omega
    · show (if t.2.bu < t.2.fi then t.2.bu else t.2.fi) ≤ t.2.bu
      split <;> omega

/-- Keys, one after another, among others: what is left. -/
def grd : List ByteArray → List ByteArray → List ByteArray
  | [], _ => []
  | a :: xs, [] => a :: xs
  | a :: xs, m :: ms => if a = m then grd xs ms else grd (a :: xs) ms
theorem grd_nil (ms : List ByteArray) : grd [] ms = [] := by cases ms <;> rfl
theorem grd_end (xs : List ByteArray) : grd xs [] = xs := by cases xs <;> rfl
theorem grd_sub : ∀ (ms xs : List ByteArray), xs.Sublist ms → grd xs ms = []
  | [], xs, h => by rw [List.sublist_nil.1 h]; rfl
  | m :: ms, [], _ => rfl
  | m :: ms, a :: xs, h => by
    unfold grd
    by_cases e : a = m
    · rw [if_pos e]
      subst e
      exact grd_sub ms xs (List.cons_sublist_cons.1 h)
    · rw [if_neg e]
      refine grd_sub ms (a :: xs) ?_
      cases h with
      | cons _ h => exact h
      | cons_cons _ _ => exact absurd rfl e
end Go.Proofs.YtmehjcimohhopaaDoor

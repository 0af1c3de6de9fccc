/- A talk: the program's. No statement is proved here. -/
import Derived.Test.YtmehjcimohhopaaDoorTxtL
import Derived.Deep.RegionLaw
namespace Go.Proofs.YtmehjcimohhopaaDoor
open Go.RowKit

abbrev Pr := ByteArray × ByteArray
def pairCells (l : List Pr) : List Value := l.flatMap fun p => [.string p.1, .string p.2]
def PairsAt (S : Nat → Prop) (w : World) (v : Value) (l : List Pr) : Prop := RowAt S w v l.length 2 (pairCells l)
theorem PairsAt.keep {S : Nat → Prop} {w w' : World} {v : Value} {l : List Pr} (h : PairsAt S w v l) (hb : Below w.heap.size w w') : PairsAt S w' v l := RowAt.keep h hb
theorem pairCells_append (a b : List Pr) : pairCells (a ++ b) = pairCells a ++ pairCells b := by simp [pairCells]
theorem pairCells_length (l : List Pr) : (pairCells l).length = l.length * 2 := by
  induction l with
  | nil => rfl
  | cons p l ih => show (.string p.1 :: .string p.2 :: pairCells l : List Value).length = _; simp [ih]; omega
theorem pairCells_at : ∀ (l : List Pr) (k : Nat) (h : k < l.length), (pairCells l)[k * 2]? = some (.string l[k].1) ∧ (pairCells l)[k * 2 + 1]? = some (.string l[k].2)
  | p :: l, 0, _ => ⟨rfl, rfl⟩
  | p :: l, k + 1, h => by
    have ih := pairCells_at l k (by simpa using h)
    show (.string p.1 :: .string p.2 :: pairCells l : List Value)[(k + 1) * 2]? = _ ∧ (.string p.1 :: .string p.2 :: pairCells l : List Value)[(k + 1) * 2 + 1]? = _
    rw [show (k + 1) * 2 = k * 2 + 1 + 1 by omega, show k * 2 + 1 + 1 + 1 = (k * 2 + 1) + 1 + 1 by omega]
    simpa using ih

/-- A talk's state: what is told so far, what is agreed on; none: a value that can not be. -/
def talkStep (s : Option (List Pr × Par)) (p : Pr) : Option (List Pr × Par) :=
  s.bind fun st => if (ansP st.2 p.1 p.2).2.ok = true then some (if (ansP st.2 p.1 p.2).2.told = true then st.1 ++ [(p.1, (ansP st.2 p.1 p.2).2.val)] else st.1, (ansP st.2 p.1 p.2).1) else none
def talkRun (P : Par) (l : List Pr) : Option (List Pr × Par) := l.foldl talkStep (some ([], P))
def talkP (P : Par) (l : List Pr) : List Pr × Par × Int :=
  match talkRun P l with
  | some (o, Q) => (o, { Q with fi := if Q.bu < Q.fi then Q.bu else Q.fi }, 0)
  | none => ([], P, 1)
theorem talk_none : ∀ l : List Pr, l.foldl talkStep none = none
  | [] => rfl
  | _ :: l => talk_none l
theorem talkRun_snoc (P : Par) (l : List Pr) (p : Pr) : talkRun P (l ++ [p]) = talkStep (talkRun P l) p := by simp [talkRun]
theorem talkRun_stop (P : Par) (l : List Pr) (k : Nat) (h : k < l.length) (hn : talkStep (talkRun P (l.take k)) l[k] = none) : talkRun P l = none := by
  have e : l = l.take k ++ [l[k]] ++ l.drop (k + 1) := by rw [List.append_assoc, List.singleton_append, ← List.drop_eq_getElem_cons h, List.take_append_drop]
  rw [e]
  unfold talkRun
  rw [List.foldl_append, List.foldl_append]
  show (l.drop (k + 1)).foldl talkStep (talkStep (talkRun P (l.take k)) l[k]) = none
  rw [hn, talk_none]
theorem numA_in {P : Par} {v : ByteArray} {lo hi : Int} {F : Int → Par × Ans} (hP : in64 P.bu ∧ in64 P.fi) (hF : ∀ n, lo ≤ n → n ≤ hi → in64 (F n).1.bu ∧ in64 (F n).1.fi) : in64 (numA P v lo hi F).1.bu ∧ in64 (numA P v lo hi F).1.fi := by
  unfold numA
  split
  · rename_i h; exact hF _ h.2.1 h.2.2
  · exact hP
theorem swA_in {P : Par} {v : ByteArray} {F : Bool → Par × Ans} (hP : in64 P.bu ∧ in64 P.fi) (hF : ∀ x, in64 (F x).1.bu ∧ in64 (F x).1.fi) : in64 (swA P v F).1.bu ∧ in64 (swA P v F).1.fi := by
  unfold swA
  split
  · exact hF _
  · split
    · exact hF _
    · exact hP
theorem digA_in {P : Par} {ws : List ByteArray} {F : Bool → Par} (hP : in64 P.bu ∧ in64 P.fi) (hF : ∀ x, in64 (F x).bu ∧ in64 (F x).fi) : in64 (digA P ws F).1.bu ∧ in64 (digA P ws F).1.fi := by
  unfold digA
  split
  · exact hF _
  · exact hP
theorem ite_in {c : Prop} [Decidable c] {a b : Par × Ans} (ha : in64 a.1.bu ∧ in64 a.1.fi) (hb : in64 b.1.bu ∧ in64 b.1.fi) : in64 (if c then a else b).1.bu ∧ in64 (if c then a else b).1.fi := by split; exact ha; exact hb
theorem ansP_in (P : Par) (k v : ByteArray) (hP : in64 P.bu ∧ in64 P.fi) : in64 (ansP P k v).1.bu ∧ in64 (ansP P k v).1.fi := by
  have hmin : ∀ n lo hi x : Int, 0 ≤ lo → hi ≤ 16777215 → lo ≤ n → n ≤ hi → in64 x → in64 (if n < x then n else x) := by
    intro n lo hi x h1 h2 h3 h4 h5
    unfold in64 at *
    split <;> omega
  unfold ansP
  repeat' (with_reducible refine ite_in ?_ ?_)
  all_goals first
    | exact hP
    | (refine digA_in hP ?_; intro _; exact hP)
    | (refine swA_in hP ?_; intro _; exact hP)
    | (refine numA_in hP ?_; intro n h1 h2; exact hP)
    | (refine numA_in hP ?_; intro n h1 h2; exact ⟨hmin n 512 16777215 _ (by decide) (by decide) h1 h2 hP.1, hP.2⟩)
    | (refine numA_in hP ?_; intro n h1 h2; exact ⟨hP.1, hmin n 512 16777215 _ (by decide) (by decide) h1 h2 hP.2⟩)

theorem infoPair : (Tryd.prog.info? 46).map (fun i => (i.zero, i.size, i.bytes)) = some (some (.agg #[.string ⟨#[]⟩, .string ⟨#[]⟩]), 2, 32) := by kernel_rfl
end Go.Proofs.YtmehjcimohhopaaDoor

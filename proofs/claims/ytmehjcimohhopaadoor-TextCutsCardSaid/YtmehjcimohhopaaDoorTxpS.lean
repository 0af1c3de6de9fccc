/- Pairs that came in, read, with their number. No statement is proved here. -/
import Derived.Test.YtmehjcimohhopaaDoorTxtBk
namespace Go.Proofs.YtmehjcimohhopaaDoor
open Go.ChangeShapes Go.WideShapes

section
variable {H : Type} {enc : TypeId × Value → H} {W : World} {base : Nat} {spare : Nat → Bool} {held : Bool}
theorem open_pairs_len {fuel : Nat} {a : Option Addr} {len cap : Nat} {x : DataW H × List MemPlace} (h : DataW.trod enc Tryd.prog W base spare held fuel 30 [.slice a len cap] = some x) :
    (∃ l : List Pr, l.length = len ∧ PairsAt (fun _ => True) W (.slice a len cap) l) ∧ (len = 0 ∨ ∃ D S, x.1 = .slice D S ∧ D.length = len) := by
  obtain ⟨l, h1, h2, -, -⟩ := open_pairs h (Nat.le_refl _)
  refine ⟨⟨l, h1, h2⟩, ?_⟩
  rcases Go.Deep.open_slice Tryd.underlying30 h with ⟨hcs, -⟩ | ⟨ad, l', c', m, n, D, Pl, hcs, -, -, -, -, hx, -⟩
  · simp at hcs
    exact .inl hcs.2.1
  · simp at hcs
    obtain ⟨rfl, rfl, rfl⟩ := hcs
    exact .inr ⟨_, _, by rw [hx], by simp⟩
end
end Go.Proofs.YtmehjcimohhopaaDoor
